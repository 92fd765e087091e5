/-
  The walk of a model's Items, of a model with one entry. No condition but sizes.
-/
import Derived.Test.YtimdedkejadnfaaGreatDoorMoX
namespace Go.Proofs.YtimdedkejadnfaaGreatDoor
open Go.RowKit Go.Foldp Go.Colm Go.Wirep Go.Maps
set_option linter.unusedVariables false
set_option linter.unusedSimpArgs false
set_option linter.unusedSectionVars false

theorem item_info : (Tryz.prog.info? 45).map (fun i => (i.zero, i.size, i.bytes)) = some (some (.agg #[.string ⟨#[]⟩, .int .u16 0, .slice none 0 0, .int .u64 0, .bool false]), 5, 64) := by kernel_rfl

/-- An append as an operation of a region. -/
theorem stepA {P : Program} {ops : Array Oper} {Q : Exit → Act → World → Prop} {o : Oper} {a : Act} {w : World} {K : Act → World → Prop} (hgd : o.guard = none) (s x : Operand) (t : TypeId)
    (ho : o.op = .call { callee := .builtin .append, args := #[s, x], argTypes := #[t, t] })
    (base : Nat) (e : TypeId) (i : TypeInfo) (z : Value) (size bytes : Nat) (ht : P.underlying t = some (.slice e)) (hi : P.info? e = some i) (hz : i.zero = some z)
    (hsize : i.size = size) (hby : i.bytes = bytes) (hzs : z.cells.size = size) (hsz : 0 < size)
    (v : Value) (n : Nat) (xs : List Value) (hs : a.eval s = v) (hown : w.ownsRow base e size v n xs)
    (ad : Addr) (m c : Nat) (news : List Value) (hx : a.eval x = .slice (some ad) m c) (hl : news.length = m * size) (hnews : ∀ j u, news[j]? = some u → w.cell? (ad.add j) = some u) (h1 : ∀ u ∈ news, u.oneCell' = true)
    (h63 : n + m ≤ maxLen) (hbytes : (n + m) * bytes ≤ 140737488355328) (hbase : base ≤ w.heap.size)
    (h : ∀ v' w', w'.ownsRow base e size v' (n + m) (xs ++ news) → w.grownBy w' v.ownBlock → (v' = .slice none 0 0 ↔ v = .slice none 0 0 ∧ m = 0) → (v'.ownBlock = v.ownBlock ∨ v'.ownBlock = some w.heap.size) → K (a.put o.dst v') w') :
    if Region.wanted o (yielded ops a.tmps) = true then Oper.wp P o a w K Q else K (a.put o.dst undef) w := by
  rw [if_pos (by simp [Region.wanted, hgd])]
  obtain ⟨v', w', hr, h2, h3, h4, h5⟩ := run_append_own_at (P := P) w base t o.type e i z size bytes ht hi hz hsize hby hzs hsz v n xs hown ad m c news hl hnews h1 h63 hbytes hbase
  unfold Oper.wp execOp
  simp only [ho, resolve, invoke, builtin, Sem.run_bind, Sem.run_pure, Result.andThen_ok, List.map_toArray, List.map_cons, List.map_nil, hs, hx, hr]
  exact h v' w' h2 h3 h4 h5

theorem cells_at {w : World} {g : Nat} {t : TypeId} {cs : Array Value} (h : Whole w g t cs) : ∀ j u, cs.toList[j]? = some u → w.cell? ((⟨g, 0, none⟩ : Addr).add j) = some u := by
  intro j u hj
  have e : (⟨g, 0, none⟩ : Addr).add j = ⟨g, j, none⟩ := by
    unfold Addr.add
    split
    · rename_i h0
      subst h0
      rfl
    · simp
  rw [e, h.cell]
  simpa using hj
/-- A row of cells in a block from B on. -/
def RowB (B : Nat) (w : World) (A : Option Addr) (vs : List Value) : Prop := RowV w A vs ∧ ∀ a, A = some a → B ≤ a.block
theorem RowB.below {B : Nat} {w w' : World} {A : Option Addr} {vs : List Value} (h : RowB B w A vs) (hb : Below w.heap.size w w') : RowB B w' A vs := ⟨h.1.below hb, h.2⟩
theorem RowB.of {B C : Nat} {w : World} {e : TypeId} {size n c : Nat} {A : Option Addr} {xs vs : List Value} (h : RowV w A vs) (ho : w.ownsRow C e size (.slice A n c) n xs) (hB : B ≤ C) : RowB B w A vs :=
  ⟨h, fun a e => Nat.le_trans hB (own_ge ho (by subst e; rfl)).1⟩
def itemC (d : Ent) (A : Option Addr) : List Value := [.string ⟨d.name.toArray⟩, .int .u16 (d.typ : Int), .slice A d.recs.length d.recs.length, .int .u64 (d.fin : Int), .bool d.used]
def itemF (A : Option Addr) (c eb : Nat) (d : Ent) (h : Nat) : Nat → Value → World → Prop
  | 0, v, _ => v = .slice none 0 0
  | 1, v, _ => v = .pointer (some ⟨eb, 0, none⟩)
  | 2, v, _ => v = .pointer (some ⟨eb, 0, none⟩)
  | 3, v, _ => v = .pointer (some ⟨eb, 2, none⟩)
  | 4, v, _ => v = .agg #[.string ⟨d.name.toArray⟩, .int .u16 (d.typ : Int)]
  | 5, v, _ => v = .pointer (some ⟨eb, 0, none⟩)
  | 6, v, _ => v = .pointer (some ⟨eb, 0, none⟩)
  | 7, v, _ => v = .pointer (some ⟨eb, 5, none⟩)
  | 8, v, _ => v = .slice A d.recs.length c
  | 9, v, w => ∃ A', v = .slice A' d.recs.length d.recs.length ∧ RecAt (fun k => h ≤ k ∧ k < w.heap.size) w A' d.recs
  | 10, v, _ => v = .pointer (some ⟨eb, 0, none⟩)
  | 11, v, _ => v = .pointer (some ⟨eb, 0, none⟩)
  | 12, v, _ => v = .pointer (some ⟨eb, 6, none⟩)
  | 13, v, _ => v = .int .u64 (d.fin : Int)
  | 14, v, _ => v = .pointer (some ⟨eb, 0, none⟩)
  | 15, v, _ => v = .pointer (some ⟨eb, 0, none⟩)
  | 16, v, _ => v = .pointer (some ⟨eb, 7, none⟩)
  | 17, v, _ => v = .bool d.used
  | 18, v, w => ∃ A', v = .agg #[.string ⟨d.name.toArray⟩, .int .u16 (d.typ : Int), .slice A' d.recs.length d.recs.length, .int .u64 (d.fin : Int), .bool d.used] ∧ RecAt (fun k => h ≤ k ∧ k < w.heap.size) w A' d.recs
  | 19, v, w => ∃ g A', v = .slice (some ⟨g, 0, none⟩) 1 1 ∧ Whole w g 45 #[.string ⟨d.name.toArray⟩, .int .u16 (d.typ : Int), .slice A' d.recs.length d.recs.length, .int .u64 (d.fin : Int), .bool d.used] ∧ RecAt (fun k => h ≤ k ∧ k < w.heap.size) w A' d.recs
  | 20, v, w => ∃ A'' c'' A', v = .slice A'' 1 c'' ∧ RowB h w A'' (itemC d A') ∧ RecAt (fun k => h ≤ k ∧ k < w.heap.size) w A' d.recs
  | 21, v, w => ∃ A'' c'' A', v = .slice A'' 1 c'' ∧ RowB h w A'' (itemC d A') ∧ RecAt (fun k => h ≤ k ∧ k < w.heap.size) w A' d.recs
  | _, _, _ => True
theorem itemF_stab (A : Option Addr) (c eb : Nat) (d : Ent) (h : Nat) : ∀ (j : Nat) (v : Value) (w w' : World), Below w.heap.size w w' → itemF A c eb d h j v w → itemF A c eb d h j v w'
  | 0, _, _, _, _, h => h
  | 1, _, _, _, _, h => h
  | 2, _, _, _, _, h => h
  | 3, _, _, _, _, h => h
  | 4, _, _, _, _, h => h
  | 5, _, _, _, _, h => h
  | 6, _, _, _, _, h => h
  | 7, _, _, _, _, h => h
  | 8, _, _, _, _, h => h
  | 9, _, _, _, hb, ⟨A', e, h1⟩ => ⟨A', e, (h1.below hb).mono fun k hk => ⟨hk.1, Nat.lt_of_lt_of_le hk.2 hb.size⟩⟩
  | 10, _, _, _, _, h => h
  | 11, _, _, _, _, h => h
  | 12, _, _, _, _, h => h
  | 13, _, _, _, _, h => h
  | 14, _, _, _, _, h => h
  | 15, _, _, _, _, h => h
  | 16, _, _, _, _, h => h
  | 17, _, _, _, _, h => h
  | 18, _, _, _, hb, ⟨A', e, h1⟩ => ⟨A', e, (h1.below hb).mono fun k hk => ⟨hk.1, Nat.lt_of_lt_of_le hk.2 hb.size⟩⟩
  | 19, _, _, _, hb, ⟨g, A', e, h0, h1⟩ => ⟨g, A', e, (hb.block _ h0.lt).trans h0, (h1.below hb).mono fun k hk => ⟨hk.1, Nat.lt_of_lt_of_le hk.2 hb.size⟩⟩
  | 20, _, _, _, hb, ⟨g, q, A', e, h0, h1⟩ => ⟨g, q, A', e, h0.below hb, (h1.below hb).mono fun k hk => ⟨hk.1, Nat.lt_of_lt_of_le hk.2 hb.size⟩⟩
  | 21, _, _, _, hb, ⟨g, q, A', e, h0, h1⟩ => ⟨g, q, A', e, h0.below hb, (h1.below hb).mono fun k hk => ⟨hk.1, Nat.lt_of_lt_of_le hk.2 hb.size⟩⟩
  | _ + 22, _, _, _, _, _ => trivial

set_option maxRecDepth 100000 in
set_option maxHeartbeats 12800000 in
theorem items_one (L : Lay) (M : Mod) (w : World) (i : Nat) (d : Ent) (h : Has L M w) (hring : M.ring = [i]) (hi : M.etab[i]? = some d) (hl32 : d.recs.length < 4294967296) (hll : ∀ x ∈ d.recs, x.length < 1099511627776) :
    Calls Tryz.prog 11 #[.pointer (some ⟨L.xb, 0, none⟩)] w fun e w' => ∃ A c A', e = .returned (.slice A 1 c) ∧ RowB w.heap.size w' A (itemC d A') ∧
      RecAt (fun k => w.heap.size ≤ k ∧ k < w'.heap.size) w' A' d.recs ∧ Below w.heap.size w w' := by
  obtain ⟨Ar, cr, erv, hrow0⟩ := own_row h.ring
  rw [hring] at hrow0
  obtain ⟨b, off, rfl, hcell⟩ := hrow0 0 (ptrE L (some i)) rfl
  simp only [ptrE, Option.map_some] at hcell
  have x3 : w.cell? ⟨L.xb, 3, none⟩ = some (.slice (some ⟨b, off, none⟩) 1 cr) := by
    have := h.xcell 3
    simp only [modC, erv] at this
    rw [hring] at this
    exact this
  obtain ⟨i1, hi1, hy0, hy1, hy2⟩ := info_parts item_info
  obtain ⟨A, c, erc, hrec⟩ := h.comp .recs i d hi
  obtain ⟨N, hN⟩ : ∃ N : Nat → Prop, N = (fun k => L.G k = some .recs) := ⟨_, rfl⟩
  rw [← hN] at hrec
  have z2 : w.cell? ⟨L.eb i, 2, none⟩ = some (.string ⟨d.name.toArray⟩) := (h.ent hi).cell 2
  have z3 : w.cell? ⟨L.eb i, 3, none⟩ = some (.int .u16 (d.typ : Int)) := (h.ent hi).cell 3
  have z5 : w.cell? ⟨L.eb i, 5, none⟩ = some (.slice A d.recs.length c) := by
    have := (h.ent hi).cell 5
    simp only [entC, erc] at this
    exact this
  have z6 : w.cell? ⟨L.eb i, 6, none⟩ = some (.int .u64 (d.fin : Int)) := (h.ent hi).cell 6
  have z7 : w.cell? ⟨L.eb i, 7, none⟩ = some (.bool d.used) := (h.ent hi).cell 7
  have hnone := none_any L M w h
  have hall0 : ∀ W, Below w.heap.size w W → W.cell? ⟨L.eb i, 2, none⟩ = some (.string ⟨d.name.toArray⟩) ∧ W.cell? ⟨L.eb i, 3, none⟩ = some (.int .u16 (d.typ : Int)) ∧ W.cell? ⟨L.eb i, 5, none⟩ = some (.slice A d.recs.length c) ∧ W.cell? ⟨L.eb i, 6, none⟩ = some (.int .u64 (d.fin : Int)) ∧ W.cell? ⟨L.eb i, 7, none⟩ = some (.bool d.used) := fun W hW =>
    ⟨(hW.cell (lt_of_cell z2)).trans z2, (hW.cell (lt_of_cell z3)).trans z3, (hW.cell (lt_of_cell z5)).trans z5, (hW.cell (lt_of_cell z6)).trans z6, (hW.cell (lt_of_cell z7)).trans z7⟩
  have HNO := Lib.hid hnone
  have HREC0 := Lib.hid hrec
  have HALL := Lib.hid hall0
  clear h hnone hall0 hrec z2 z3 z5 z6 z7 hN erv hrow0 erc
  go_enter Tryz.func11, Tryz.ntmps11
  go_wp2_with fail
  refine HNO.out.mono ?_
  rintro e w1 ⟨rfl, rfl⟩
  go_wp2_with fail
  go_loopw [3, 5, 13] (fun s3 s5 s13 wr => ∃ (k : Nat) (v : Value), k ≤ 1 ∧ s13 = .int .i64 k ∧ v = s3 ∧ Hid (Below w1.heap.size w1 wr) ∧ Hid (k = 0 → v = .slice none 0 0) ∧ Hid (k = 1 → ∃ A2 c2 A', v = .slice A2 1 c2 ∧ RowB w1.heap.size wr A2 (itemC d A') ∧ RecAt (fun k => w1.heap.size ≤ k ∧ k < wr.heap.size) wr A' d.recs)) (fun s3 s5 s13 wr => match s13 with | .int _ m => 1 - m.toNat | _ => 0)
  case atStart => exact ⟨0, _, Nat.zero_le _, rfl, rfl, Lib.hid (Below.refl _ _), Lib.hid (fun _ => rfl), Lib.hid (fun h => by omega)⟩
  case round =>
    obtain ⟨k, v, hk, rfl, hv3, HB, H0, H1⟩ := hrel
    subst hv3
    by_cases hlt : k < 1
    · have hk0 : k = 0 := by omega
      subst hk0
      obtain rfl := H0.out rfl
      have hc2 : wr.cell? ⟨b, off, none⟩ = some (.pointer (some ⟨L.eb i, 0, none⟩)) := (HB.out.cell (lt_of_cell hcell)).trans hcell
      have hall : ∀ W, Below wr.heap.size wr W → _ := fun W hW => HALL.out W (below_chain HB.out hW)
      have HREC := Lib.hid (HREC0.out.below HB.out)
      have hz1 : Hid (w1.heap.size ≤ wr.heap.size) := Lib.hid HB.out.size
      go_upto_region 7 with fail
      refine wp_region_steps (itemF A c (L.eb i) d wr.heap.size) (fun w w' => Below w.heap.size w w') rfl (n := 40) rfl (by kernel_rfl) (by kernel_rfl) (fun w => Below.refl _ _) (fun _ _ _ => below_chain) (itemF_stab _ _ _ _ _) ?_ ?_
      · refine steps_cons ?_ (steps_cons ?_ (steps_cons ?_ (steps_cons ?_ (steps_cons ?_ (steps_cons ?_ (steps_cons ?_ (steps_cons ?_ (steps_cons ?_ (steps_cons ?_ (steps_cons ?_ (steps_cons ?_ (steps_cons ?_ (steps_cons ?_ (steps_cons ?_ (steps_cons ?_ (steps_cons ?_ (steps_cons ?_ (steps_cons ?_ (steps_cons ?_ (steps_cons ?_ (steps_cons ?_ (steps_nil))))))))))))))))))))))
        · intro L9 a9 W9 hm hn hp hr K9 hK
          have e3 : a9.tmps[3]? = some (.slice none 0 0) := (hm.keep2 hn (by rfl)).trans rfl
          exact stepV rfl (by go_simp) (hK _ _ rfl (Below.refl _ _))
        · intro L9 a9 W9 hm hn hp hr K9 hK
          have e5 : a9.tmps[5]? = some (.pointer (some ⟨L.eb i, 0, none⟩)) := (hm.keep2 hn (by rfl)).trans rfl
          exact stepV rfl (by go_simp) (hK _ _ rfl (Below.refl _ _))
        · intro L9 a9 W9 hm hn hp hr K9 hK
          obtain ⟨v1, e18, hf1⟩ := hm.val2 (j := 1) (t := 18) rfl rfl (hp ⟨1, .data⟩ (by simp) rfl)
          obtain rfl : v1 = .pointer (some ⟨L.eb i, 0, none⟩) := hf1
          exact stepV rfl (by go_simp) (hK _ _ rfl (Below.refl _ _))
        · intro L9 a9 W9 hm hn hp hr K9 hK
          obtain ⟨v2, e19, hf2⟩ := hm.val2 (j := 2) (t := 19) rfl rfl (hp ⟨2, .data⟩ (by simp) rfl)
          obtain rfl : v2 = .pointer (some ⟨L.eb i, 0, none⟩) := hf2
          exact stepV rfl (by go_simp) (hK _ _ rfl (Below.refl _ _))
        · intro L9 a9 W9 hm hn hp hr K9 hK
          obtain ⟨v3, e20, hf3⟩ := hm.val2 (j := 3) (t := 20) rfl rfl (hp ⟨3, .data⟩ (by simp) rfl)
          obtain rfl : v3 = .pointer (some ⟨L.eb i, 2, none⟩) := hf3
          obtain ⟨y2, y3, y5, y6, y7⟩ := hall W9 (below_chain (Below.refl _ _).drew hr)
          exact stepV rfl (by go_simp) (hK _ _ rfl (Below.refl _ _))
        · intro L9 a9 W9 hm hn hp hr K9 hK
          have e5 : a9.tmps[5]? = some (.pointer (some ⟨L.eb i, 0, none⟩)) := (hm.keep2 hn (by rfl)).trans rfl
          exact stepV rfl (by go_simp) (hK _ _ rfl (Below.refl _ _))
        · intro L9 a9 W9 hm hn hp hr K9 hK
          obtain ⟨v5, e22, hf5⟩ := hm.val2 (j := 5) (t := 22) rfl rfl (hp ⟨5, .data⟩ (by simp) rfl)
          obtain rfl : v5 = .pointer (some ⟨L.eb i, 0, none⟩) := hf5
          exact stepV rfl (by go_simp) (hK _ _ rfl (Below.refl _ _))
        · intro L9 a9 W9 hm hn hp hr K9 hK
          obtain ⟨v6, e23, hf6⟩ := hm.val2 (j := 6) (t := 23) rfl rfl (hp ⟨6, .data⟩ (by simp) rfl)
          obtain rfl : v6 = .pointer (some ⟨L.eb i, 0, none⟩) := hf6
          exact stepV rfl (by go_simp) (hK _ _ rfl (Below.refl _ _))
        · intro L9 a9 W9 hm hn hp hr K9 hK
          obtain ⟨v7, e24, hf7⟩ := hm.val2 (j := 7) (t := 24) rfl rfl (hp ⟨7, .data⟩ (by simp) rfl)
          obtain rfl : v7 = .pointer (some ⟨L.eb i, 5, none⟩) := hf7
          obtain ⟨y2, y3, y5, y6, y7⟩ := hall W9 (below_chain (Below.refl _ _).drew hr)
          exact stepV rfl (by go_simp) (hK _ _ rfl (Below.refl _ _))
        · intro L9 a9 W9 hm hn hp hr K9 hK
          obtain ⟨v8, e25, hf8⟩ := hm.val2 (j := 8) (t := 25) rfl rfl (hp ⟨8, .data⟩ (by simp) rfl)
          obtain rfl : v8 = .slice A d.recs.length c := hf8
          refine stepC rfl 29 #[.slice A d.recs.length c] (by simp [execOp, go_sem, e25]) (fun v w' => ∃ us, RecOwn W9.heap.size w' v us d.recs ∧ Below W9.heap.size W9 w') ?_ ?_
          · refine (clone_any N A c d.recs W9 hl32 hll (HREC.out.below (below_chain (Below.refl _ wr).drew hr))).mono ?_
            rintro e w5 ⟨v, us, rfl, hro, hb5⟩
            exact ⟨v, rfl, us, hro, hb5⟩
          · rintro v w5 ⟨us, hro, hb5⟩
            obtain ⟨A', e', hra⟩ := hro.at_
            have hsz9 : wr.heap.size ≤ W9.heap.size := hr.size
            exact hK _ _ ⟨A', e', hra.mono fun k hk => ⟨Nat.le_trans hsz9 hk.1, hk.2⟩⟩ hb5
        · intro L9 a9 W9 hm hn hp hr K9 hK
          have e5 : a9.tmps[5]? = some (.pointer (some ⟨L.eb i, 0, none⟩)) := (hm.keep2 hn (by rfl)).trans rfl
          exact stepV rfl (by go_simp) (hK _ _ rfl (Below.refl _ _))
        · intro L9 a9 W9 hm hn hp hr K9 hK
          obtain ⟨v10, e27, hf10⟩ := hm.val2 (j := 10) (t := 27) rfl rfl (hp ⟨10, .data⟩ (by simp) rfl)
          obtain rfl : v10 = .pointer (some ⟨L.eb i, 0, none⟩) := hf10
          exact stepV rfl (by go_simp) (hK _ _ rfl (Below.refl _ _))
        · intro L9 a9 W9 hm hn hp hr K9 hK
          obtain ⟨v11, e28, hf11⟩ := hm.val2 (j := 11) (t := 28) rfl rfl (hp ⟨11, .data⟩ (by simp) rfl)
          obtain rfl : v11 = .pointer (some ⟨L.eb i, 0, none⟩) := hf11
          exact stepV rfl (by go_simp) (hK _ _ rfl (Below.refl _ _))
        · intro L9 a9 W9 hm hn hp hr K9 hK
          obtain ⟨v12, e29, hf12⟩ := hm.val2 (j := 12) (t := 29) rfl rfl (hp ⟨12, .data⟩ (by simp) rfl)
          obtain rfl : v12 = .pointer (some ⟨L.eb i, 6, none⟩) := hf12
          obtain ⟨y2, y3, y5, y6, y7⟩ := hall W9 (below_chain (Below.refl _ _).drew hr)
          exact stepV rfl (by go_simp) (hK _ _ rfl (Below.refl _ _))
        · intro L9 a9 W9 hm hn hp hr K9 hK
          have e5 : a9.tmps[5]? = some (.pointer (some ⟨L.eb i, 0, none⟩)) := (hm.keep2 hn (by rfl)).trans rfl
          exact stepV rfl (by go_simp) (hK _ _ rfl (Below.refl _ _))
        · intro L9 a9 W9 hm hn hp hr K9 hK
          obtain ⟨v14, e31, hf14⟩ := hm.val2 (j := 14) (t := 31) rfl rfl (hp ⟨14, .data⟩ (by simp) rfl)
          obtain rfl : v14 = .pointer (some ⟨L.eb i, 0, none⟩) := hf14
          exact stepV rfl (by go_simp) (hK _ _ rfl (Below.refl _ _))
        · intro L9 a9 W9 hm hn hp hr K9 hK
          obtain ⟨v15, e32, hf15⟩ := hm.val2 (j := 15) (t := 32) rfl rfl (hp ⟨15, .data⟩ (by simp) rfl)
          obtain rfl : v15 = .pointer (some ⟨L.eb i, 0, none⟩) := hf15
          exact stepV rfl (by go_simp) (hK _ _ rfl (Below.refl _ _))
        · intro L9 a9 W9 hm hn hp hr K9 hK
          obtain ⟨v16, e33, hf16⟩ := hm.val2 (j := 16) (t := 33) rfl rfl (hp ⟨16, .data⟩ (by simp) rfl)
          obtain rfl : v16 = .pointer (some ⟨L.eb i, 7, none⟩) := hf16
          obtain ⟨y2, y3, y5, y6, y7⟩ := hall W9 (below_chain (Below.refl _ _).drew hr)
          exact stepV rfl (by go_simp) (hK _ _ rfl (Below.refl _ _))
        · intro L9 a9 W9 hm hn hp hr K9 hK
          obtain ⟨v4, e21, hf4⟩ := hm.val2 (j := 4) (t := 21) rfl rfl (hp ⟨4, .data⟩ (by simp) rfl)
          obtain rfl : v4 = .agg #[.string ⟨d.name.toArray⟩, .int .u16 (d.typ : Int)] := hf4
          obtain ⟨v9, e26, hf9⟩ := hm.val2 (j := 9) (t := 26) rfl rfl (hp ⟨9, .data⟩ (by simp) rfl)
          obtain ⟨A', rfl, hra⟩ : ∃ A', v9 = .slice A' d.recs.length d.recs.length ∧ RecAt (fun k => wr.heap.size ≤ k ∧ k < W9.heap.size) W9 A' d.recs := hf9
          obtain ⟨v13, e30, hf13⟩ := hm.val2 (j := 13) (t := 30) rfl rfl (hp ⟨13, .data⟩ (by simp) rfl)
          obtain rfl : v13 = .int .u64 (d.fin : Int) := hf13
          obtain ⟨v17, e34, hf17⟩ := hm.val2 (j := 17) (t := 34) rfl rfl (hp ⟨17, .data⟩ (by simp) rfl)
          obtain rfl : v17 = .bool d.used := hf17
          have HRA := Lib.hid hra
          clear hra
          exact stepV rfl (by go_simp) (hK _ _ ⟨A', rfl, HRA.out⟩ (Below.refl _ _))
        · intro L9 a9 W9 hm hn hp hr K9 hK
          obtain ⟨v18, e35, hf18⟩ := hm.val2 (j := 18) (t := 35) rfl rfl (hp ⟨18, .data⟩ (by simp) rfl)
          obtain ⟨A', rfl, hra⟩ : ∃ A', v18 = .agg #[.string ⟨d.name.toArray⟩, .int .u16 (d.typ : Int), .slice A' d.recs.length d.recs.length, .int .u64 (d.fin : Int), .bool d.used] ∧ RecAt (fun k => wr.heap.size ≤ k ∧ k < W9.heap.size) W9 A' d.recs := hf18
          have HRA := Lib.hid hra
          clear hra
          refine stepV (v := .slice (some ⟨W9.heap.size, 0, none⟩) 1 1) (w' := W9.alloc (.cells #[.string ⟨d.name.toArray⟩, .int .u16 (d.typ : Int), .slice A' d.recs.length d.recs.length, .int .u64 (d.fin : Int), .bool d.used] 45)) rfl (by go_simp) (hK _ _ ⟨W9.heap.size, A', rfl, Whole.new _ _ _, ?_⟩ ((Below.refl _ _).alloc (Nat.le_refl _) _))
          exact (HRA.out.below ((Below.refl _ _).alloc (Nat.le_refl _) _)).mono fun k hk => ⟨hk.1, Nat.lt_of_lt_of_le hk.2 (by simp)⟩
        · intro L9 a9 W9 hm hn hp hr K9 hK
          obtain ⟨v0, e17, hf0⟩ := hm.val2 (j := 0) (t := 17) rfl rfl (hp ⟨0, .data⟩ (by simp) rfl)
          obtain rfl : v0 = .slice none 0 0 := hf0
          obtain ⟨v19, e36, hf19⟩ := hm.val2 (j := 19) (t := 36) rfl rfl (hp ⟨19, .data⟩ (by simp) rfl)
          obtain ⟨g, A', rfl, hwg, hra⟩ : ∃ g A', v19 = .slice (some ⟨g, 0, none⟩) 1 1 ∧ Whole W9 g 45 #[.string ⟨d.name.toArray⟩, .int .u16 (d.typ : Int), .slice A' d.recs.length d.recs.length, .int .u64 (d.fin : Int), .bool d.used] ∧ RecAt (fun k => wr.heap.size ≤ k ∧ k < W9.heap.size) W9 A' d.recs := hf19
          have HRA := Lib.hid hra
          have HWG := Lib.hid hwg
          clear hra hwg
          refine stepA rfl (.tmp 17) (.tmp 36) 42 rfl W9.heap.size 45 i1 _ 5 64 Tryz.underlying42 hi1 hy0 hy1 hy2 rfl (by decide) (.slice none 0 0) 0 [] (by simp [Act.eval, Array.getD_eq_getD_getElem?, e17]) (own_nil _ _ _ _) ⟨g, 0, none⟩ 1 1 (itemC d A') (by simp [Act.eval, Array.getD_eq_getD_getElem?, e36]) rfl (cells_at HWG.out) (fun x hx => by simp [itemC] at hx; rcases hx with rfl | rfl | rfl | rfl | rfl <;> rfl) (by decide) (by decide) (Nat.le_refl _) ?_
          intro v' w' hown hg hnil _
          have hb' : Below W9.heap.size W9 w' := own_below (own_nil _ _ 0 1) (Below.refl _ _) (Nat.le_refl _) hg
          obtain ⟨A'', c'', rfl, hrow⟩ := own_rows hown
          exact hK _ _ ⟨A'', c'', A', rfl, RowB.of hrow hown (below_chain (Below.refl _ _).drew hr).size, (HRA.out.below hb').mono fun k hk => ⟨hk.1, Nat.lt_of_lt_of_le hk.2 hb'.size⟩⟩ hb'
        · intro L9 a9 W9 hm hn hp hr K9 hK
          obtain ⟨v20, e37, hf20⟩ := hm.val2 (j := 20) (t := 37) rfl rfl (hp ⟨20, .data⟩ (by simp) rfl)
          obtain ⟨A'', c'', A', rfl, hrow, hra⟩ : ∃ A'' c'' A', v20 = .slice A'' 1 c'' ∧ RowB wr.heap.size W9 A'' (itemC d A') ∧ RecAt (fun k => wr.heap.size ≤ k ∧ k < W9.heap.size) W9 A' d.recs := hf20
          have HRA := Lib.hid hra
          have HROW := Lib.hid hrow
          clear hra hrow
          exact stepV rfl (by go_simp) (hK _ _ ⟨A'', c'', A', rfl, HROW.out, HRA.out⟩ (Below.refl _ _))
      · intro vs W hF hR
        have h21 := hF 21 (by decide)
        simp only [itemF] at h21
        obtain ⟨A2, c2, A', e21, hrow, hra⟩ := h21
        have HFB := Lib.hid (below_chain HB.out (below_chain (Below.refl _ wr).drew hR))
        have HFR : Hid (∃ A2 c2 A', vs 21 = .slice A2 1 c2 ∧ RowB w1.heap.size W A2 (itemC d A') ∧ RecAt (fun k => w1.heap.size ≤ k ∧ k < W.heap.size) W A' d.recs) := Lib.hid ⟨A2, c2, A', e21, ⟨hrow.1, fun a e => Nat.le_trans hz1.out (hrow.2 a e)⟩, hra.mono fun k hk => ⟨Nat.le_trans hz1.out hk.1, hk.2⟩⟩
        clear hF hR hrow hra hall HREC
        simp only [putAll, Act.put, List.setIfInBounds_toArray, List.set_cons_zero, List.set_cons_succ, List.getElem_toArray, List.getElem_cons_zero, List.getElem_cons_succ, Nat.zero_add, Nat.reduceAdd]
        go_wp2_with fail
        go_roundw
        case rel => exact ⟨1, _, Nat.le_refl _, rfl, rfl, HFB, Lib.hid (fun h => by omega), Lib.hid (fun _ => HFR.out)⟩
        case measure => simp
    · have hk1 : k = 1 := by omega
      subst hk1
      obtain ⟨A2, c2, A', e2, hrow, hra⟩ := H1.out rfl
      have HFR := Lib.hid hrow
      have HFA := Lib.hid hra
      clear hrow hra
      go_wp2_with fail
      go_ret
      exact ⟨A2, ⟨c2, rfl⟩, A', HFR.out, HFA.out, HB.out⟩
end Go.Proofs.YtimdedkejadnfaaGreatDoor
