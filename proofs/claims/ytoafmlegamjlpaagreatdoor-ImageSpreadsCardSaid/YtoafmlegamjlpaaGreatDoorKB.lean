/-
  A cache's memory where it lies: 'HasM' says that a world holds it; it stays while others turn. No condition.
  The walks of layer num: Load, where it may be. No condition but that.
  The walks of a memory's reading: the watch's Kind and Look, the arena's Get, Load. No condition but what lies there.
-/
import Derived.Test.YtoafmlegamjlpaaGreatDoorProg
import Derived.Test.YtoafmlegamjlpaaGreatDoorKA
import Derived.WalkKit
import Derived.WalkSpells
import Derived.BigQuiet
import Derived.Deep.QuietTactic
import Derived.RegionTactic
import Derived.Deep.DeepCutAuto
import Derived.Deep.DeepMust
import Derived.Deep.RegionHeld3
import Derived.Laws.BitsAllLaws
import Derived.WalkMore
import Derived.Deep.LoopGhost
namespace Go.Proofs.YtoafmlegamjlpaaGreatDoor
open Go.RowKit Go.Colm Go.Cap
set_option linter.unusedVariables false
set_option linter.unusedSimpArgs false

/-- Where a memory lies: its own block, its watch's, its arena's, those of bytes and kinds; the capacities. -/
structure MLay where
  mb : Nat
  wb : Nat
  ab : Nat
  gb : Nat
  kb : Nat
  gc : Nat
  kc : Nat
/-- A block of small numbers. -/
def Bys (w : World) (g : Nat) (n : Nat) (t : Tr) : Prop := ∃ cs, Whole w g 5 cs ∧ n ≤ cs.size ∧ ∀ i, i < n → cs[i]? = some (.int .u8 (t.get i : Int))
/-- An arena: its block, and that of its bytes. -/
def ArA (ab gb gc n : Nat) (t : Tr) (w : World) : Prop := Whole w ab 120 #[.slice (some ⟨gb, 0, none⟩) n gc] ∧ Bys w gb n t ∧ n ≤ gc
/-- A watch: its block, and that of its kinds. -/
def WaA (wb kb kc n : Nat) (t : Tr) (w : World) : Prop := (∃ c, Whole w wb 222 #[.slice (some ⟨kb, 0, none⟩) n kc, .int .i64 c, .int .i64 0]) ∧ Bys w kb n t ∧ n ≤ kc
def fldL : List Nat := [8, 12, 16, 20, 24, 28, 32, 36, 40, 44, 48, 52, 56, 60, 64, 68, 72, 80, 84, 88, 92]
def cmnL : List Nat := [0, 1, 1, 1, 2, 1, 3, 1, 4, 4]
def ownL : List Nat := [8, 4, 12, 4, 16, 8, 24, 2, 26, 2, 28, 4]
/-- The program's tables lie where they lie. -/
structure EnvC (w : World) : Prop where
  sz : ∀ i, i < 10 → w.cell? ⟨1, i, none⟩ = some (.int .i64 (szL.getD i 0 : Nat))
  fl : ∀ i, i < 21 → w.cell? ⟨0, i, none⟩ = some (.int .i64 (fldL.getD i 0 : Nat))
  hn : ∀ i, i < 2 → w.cell? ⟨3, i, none⟩ = some (.int .i64 ((0 : Nat) : Int))
  hc : ∀ i, i < 10 → w.cell? ⟨4, i, none⟩ = some (.int .i64 (cmnL.getD i 0 : Nat))
  ho : ∀ i, i < 12 → w.cell? ⟨5, i, none⟩ = some (.int .i64 (ownL.getD i 0 : Nat))
  mx : ∃ m : Int, w.cell? ⟨6, 0, none⟩ = some (.int .i64 m)
/-- A table's block. -/
def Tab (k : Nat) : Prop := k = 1 ∨ k = 0 ∨ k = 3 ∨ k = 4 ∨ k = 5 ∨ k = 6
theorem EnvC.int {w : World} (h : EnvC w) {k : Nat} (hk : Tab k) : ∃ x, w.cell? ⟨k, 0, none⟩ = some (.int .i64 x) := by
  rcases hk with rfl | rfl | rfl | rfl | rfl | rfl
  · exact ⟨_, h.sz 0 (by decide)⟩
  · exact ⟨_, h.fl 0 (by decide)⟩
  · exact ⟨_, h.hn 0 (by decide)⟩
  · exact ⟨_, h.hc 0 (by decide)⟩
  · exact ⟨_, h.ho 0 (by decide)⟩
  · exact h.mx
theorem EnvC.lt {w : World} (h : EnvC w) {k : Nat} (hk : Tab k) : k < w.heap.size := by
  obtain ⟨x, hx⟩ := h.int hk
  exact lt_of_cell hx
theorem EnvC.kept {S : Nat → Prop} {w w' : World} (h : EnvC w) (hk : Kept S w w') (hs : ∀ k, Tab k → ¬ S k) : EnvC w' where
  sz := fun i hi => hk.cell (h.sz i hi) (hs _ (.inl rfl))
  fl := fun i hi => hk.cell (h.fl i hi) (hs _ (.inr (.inl rfl)))
  hn := fun i hi => hk.cell (h.hn i hi) (hs _ (.inr (.inr (.inl rfl))))
  hc := fun i hi => hk.cell (h.hc i hi) (hs _ (.inr (.inr (.inr (.inl rfl)))))
  ho := fun i hi => hk.cell (h.ho i hi) (hs _ (.inr (.inr (.inr (.inr (.inl rfl))))))
  mx := by
    obtain ⟨m, hm⟩ := h.mx
    exact ⟨m, hk.cell hm (hs _ (.inr (.inr (.inr (.inr (.inr rfl))))))⟩
theorem EnvC.below {w w' : World} (h : EnvC w) (hb : Below w.heap.size w w') : EnvC w' := h.kept (Kept.below hb fun _ => False) fun _ _ h => h
theorem EnvC.szs {w : World} (h : EnvC w) : Sz w := h.sz
structure HasM (Λ : MLay) (μ : Mm) (w : World) : Prop where
  env : EnvC w
  ok : okC μ.slabs μ.slots = true
  m : Whole w Λ.mb 83 #[.pointer (some ⟨Λ.wb, 0, none⟩), .pointer (some ⟨Λ.ab, 0, none⟩), .int .i64 (μ.slabs : Int), .int .i64 (μ.slots : Int)]
  wt : ∃ n, Whole w Λ.wb 222 #[.slice (some ⟨Λ.kb, 0, none⟩) (μ.size / 4) Λ.kc, .int .i64 n, .int .i64 0]
  ar : Whole w Λ.ab 120 #[.slice (some ⟨Λ.gb, 0, none⟩) μ.size Λ.gc]
  by_ : Bys w Λ.gb μ.size μ.b
  ki : Bys w Λ.kb (μ.size / 4) μ.k
  ne : Λ.gb ≠ Λ.kb
  gc : μ.size ≤ Λ.gc
  kc : μ.size / 4 ≤ Λ.kc
theorem ArA.kept {S : Nat → Prop} {ab gb gc n : Nat} {t : Tr} {w w' : World} (h : ArA ab gb gc n t w) (hk : Kept S w w') (ha : ¬ S ab) (hg : ¬ S gb) : ArA ab gb gc n t w' := by
  obtain ⟨h1, ⟨cs, h2, h3⟩, h4⟩ := h
  exact ⟨hk.whole h1 ha, ⟨cs, hk.whole h2 hg, h3⟩, h4⟩
theorem WaA.kept {S : Nat → Prop} {wb kb kc n : Nat} {t : Tr} {w w' : World} (h : WaA wb kb kc n t w) (hk : Kept S w w') (ha : ¬ S wb) (hg : ¬ S kb) : WaA wb kb kc n t w' := by
  obtain ⟨⟨c, h1⟩, ⟨cs, h2, h3⟩, h4⟩ := h
  exact ⟨⟨c, hk.whole h1 ha⟩, ⟨cs, hk.whole h2 hg, h3⟩, h4⟩
/-- What of it turns. -/
def MOwn (Λ : MLay) (k : Nat) : Prop := k = Λ.wb ∨ k = Λ.gb ∨ k = Λ.kb
/-- From a world to one that holds the memory; no other block has turned. -/
structure MG (Λ : MLay) (w : World) (μ : Mm) (w' : World) : Prop where
  has : HasM Λ μ w'
  kept : Kept (MOwn Λ) w w'

theorem Bys.kept {S : Nat → Prop} {w w' : World} {g n : Nat} {t : Tr} (h : Bys w g n t) (hk : Kept S w w') (hs : ¬ S g) : Bys w' g n t := by
  obtain ⟨cs, h1, h2, h3⟩ := h
  exact ⟨cs, hk.whole h1 hs, h2, h3⟩
theorem Bys.cell {w : World} {g n : Nat} {t : Tr} (h : Bys w g n t) {i : Nat} (hi : i < n) : w.cell? ⟨g, i, none⟩ = some (.int .u8 (t.get i : Int)) := by
  obtain ⟨cs, h1, h2, h3⟩ := h
  rw [h1.cell]
  exact h3 i hi
theorem Bys.frozen {w : World} {g n : Nat} {t : Tr} (h : Bys w g n t) (i : Nat) : w.frozen? ⟨g, i, none⟩ = false := by
  obtain ⟨cs, h1, _⟩ := h
  exact h1.frozen i
theorem Bys.lt {w : World} {g n : Nat} {t : Tr} (h : Bys w g n t) : g < w.heap.size := by
  obtain ⟨cs, h1, _⟩ := h
  exact h1.lt
theorem Bys.put {w : World} {g n : Nat} {t : Tr} (h : Bys w g n t) {i : Nat} (hi : i < n) (hn : i < 16000000) (v : Nat) : Bys (w.setCell ⟨g, i, none⟩ (.int .u8 ((v % 256 : Nat) : Int))) g n (t.put i v) := by
  obtain ⟨cs, h1, h2, h3⟩ := h
  refine ⟨_, h1.put i _, by simpa using h2, fun j hj => ?_⟩
  rw [Tr.get_put t v j hn]
  by_cases e : j = i
  · subst e
    rw [if_pos rfl, Array.getElem?_setIfInBounds_self_of_lt (by omega)]
  · rw [if_neg e, Array.getElem?_setIfInBounds_ne (by omega)]
    exact h3 j hj
theorem Bys.congr {w : World} {g n : Nat} {t t' : Tr} (h : Bys w g n t) (he : ∀ i, i < n → t.get i = t'.get i) : Bys w g n t' := by
  obtain ⟨cs, h1, h2, h3⟩ := h
  exact ⟨cs, h1, h2, fun i hi => by rw [h3 i hi, he i hi]⟩

section
variable {Λ : MLay} {μ : Mm} {w w' : World}
/-- The blocks that a memory needs. -/
def MBlk (Λ : MLay) (k : Nat) : Prop := k = Λ.mb ∨ k = Λ.wb ∨ k = Λ.ab ∨ k = Λ.gb ∨ k = Λ.kb ∨ Tab k
theorem HasM.kept {S : Nat → Prop} (h : HasM Λ μ w) (hk : Kept S w w') (hs : ∀ k, MBlk Λ k → ¬ S k) : HasM Λ μ w' := by
  obtain ⟨n, hn⟩ := h.wt
  exact ⟨h.env.kept hk fun k h => hs k (.inr (.inr (.inr (.inr (.inr h))))), h.ok, hk.whole h.m (hs _ (.inl rfl)), ⟨n, hk.whole hn (hs _ (.inr (.inl rfl)))⟩, hk.whole h.ar (hs _ (.inr (.inr (.inl rfl)))), h.by_.kept hk (hs _ (.inr (.inr (.inr (.inl rfl))))), h.ki.kept hk (hs _ (.inr (.inr (.inr (.inr (.inl rfl)))))), h.ne, h.gc, h.kc⟩
theorem HasM.lt (h : HasM Λ μ w) {k : Nat} (hk : MBlk Λ k) : k < w.heap.size := by
  obtain ⟨n, hn⟩ := h.wt
  rcases hk with rfl | rfl | rfl | rfl | rfl | hk
  · exact h.m.lt
  · exact hn.lt
  · exact h.ar.lt
  · exact h.by_.lt
  · exact h.ki.lt
  · exact h.env.lt hk
theorem HasM.keptNew {S : Nat → Prop} (h : HasM Λ μ w) (hk : Kept S w w') (hs : ∀ k, S k → w.heap.size ≤ k) : HasM Λ μ w' := h.kept hk fun k hb hS => by
  have := h.lt hb
  have := hs k hS
  omega
theorem HasM.below (h : HasM Λ μ w) (hb : Below w.heap.size w w') : HasM Λ μ w' := h.kept (Kept.below hb fun _ => False) fun _ _ h => h
theorem HasM.alloc (h : HasM Λ μ w) (o : Obj) : HasM Λ μ (w.alloc o) := h.below ((Below.refl _ w).alloc (Nat.le_refl _) o)
theorem HasM.drew (h : HasM Λ μ w) : HasM Λ μ w.drew := h.below (Below.refl _ w).drew
theorem HasM.drewN (h : HasM Λ μ w) (n : Nat) : HasM Λ μ (w.drewN n) := h.below (below_of_drewN w n)
theorem whole_apart {w : World} {g g' : Nat} {t t' : TypeId} {cs cs' : Array Value} (h : Whole w g t cs) (h' : Whole w g' t' cs') (ht : t ≠ t') : g ≠ g' := by
  rintro rfl
  unfold Whole at h h'
  rw [h] at h'
  injection h' with h1
  injection h1 with h2 h3
  exact ht h3
theorem HasM.apart (h : HasM Λ μ w) : Λ.mb ≠ Λ.wb ∧ Λ.mb ≠ Λ.ab ∧ Λ.mb ≠ Λ.gb ∧ Λ.mb ≠ Λ.kb ∧ Λ.wb ≠ Λ.ab ∧ Λ.wb ≠ Λ.gb ∧ Λ.wb ≠ Λ.kb ∧ Λ.ab ≠ Λ.gb ∧ Λ.ab ≠ Λ.kb := by
  obtain ⟨n, hn⟩ := h.wt
  obtain ⟨cs, hc, _⟩ := h.by_
  obtain ⟨ks, hk, _⟩ := h.ki
  exact ⟨whole_apart h.m hn (by decide), whole_apart h.m h.ar (by decide), whole_apart h.m hc (by decide), whole_apart h.m hk (by decide), whole_apart hn h.ar (by decide), whole_apart hn hc (by decide), whole_apart hn hk (by decide), whole_apart h.ar hc (by decide), whole_apart h.ar hk (by decide)⟩
theorem HasM.tabs (h : HasM Λ μ w) : ∀ k, Tab k → k ≠ Λ.wb ∧ k ≠ Λ.gb ∧ k ≠ Λ.kb := fun k hk => by
  obtain ⟨x, hx⟩ := h.env.int hk
  have hz := sizeC_le h.ok
  have hz2 : 8000 ≤ μ.size := hz.2.1
  obtain ⟨n, hn⟩ := h.wt
  refine ⟨?_, ?_, ?_⟩
  · rintro rfl
    rw [hn.cell 0] at hx
    cases hx
  · rintro rfl
    rw [h.by_.cell (i := 0) (by omega)] at hx
    cases hx
  · rintro rfl
    rw [h.ki.cell (i := 0) (by omega)] at hx
    cases hx
/-- Its watch has looked. -/
theorem HasM.looked (h : HasM Λ μ w) (n : Int) : HasM Λ μ (w.setCell ⟨Λ.wb, 1, none⟩ (.int .i64 n)) := by
  obtain ⟨h1, h2, _, _, h5, h6, h7, _, _⟩ := h.apart
  obtain ⟨n0, hn⟩ := h.wt
  have hk : Kept (fun k => k = Λ.wb) w (w.setCell ⟨Λ.wb, 1, none⟩ (.int .i64 n)) := (Kept.refl (fun k => k = Λ.wb) w).setCell (p := ⟨Λ.wb, 1, none⟩) (.inl rfl) _
  exact ⟨h.env.kept hk fun k ht => (h.tabs k ht).1, h.ok, hk.whole h.m h1, ⟨n, hn.put 1 (.int .i64 n)⟩, hk.whole h.ar (Ne.symm h5), h.by_.kept hk (Ne.symm h6), h.ki.kept hk (Ne.symm h7), h.ne, h.gc, h.kc⟩
/-- A byte is written. -/
theorem HasM.wrote (h : HasM Λ μ w) {i : Nat} (hi : i < μ.size) (v : Nat) : HasM Λ { μ with b := μ.b.put i v } (w.setCell ⟨Λ.gb, i, none⟩ (.int .u8 ((v % 256 : Nat) : Int))) := by
  obtain ⟨_, _, h3, _, _, h6, _, h8, _⟩ := h.apart
  obtain ⟨n0, hn⟩ := h.wt
  have hk : Kept (fun k => k = Λ.gb) w (w.setCell ⟨Λ.gb, i, none⟩ (.int .u8 ((v % 256 : Nat) : Int))) := (Kept.refl (fun k => k = Λ.gb) w).setCell (p := ⟨Λ.gb, i, none⟩) (.inl rfl) _
  have hz := sizeC_le h.ok
  have hz2 : μ.size ≤ 200000 := hz.1
  exact ⟨h.env.kept hk fun k ht => (h.tabs k ht).2.1, h.ok, hk.whole h.m h3, ⟨n0, hk.whole hn h6⟩, hk.whole h.ar h8, h.by_.put hi (by omega) v, h.ki.kept hk (Ne.symm h.ne), h.ne, h.gc, h.kc⟩
/-- A grain is of another kind. -/
theorem HasM.marked (h : HasM Λ μ w) {i : Nat} (hi : i < μ.size / 4) (v : Nat) : HasM Λ { μ with k := μ.k.put i v } (w.setCell ⟨Λ.kb, i, none⟩ (.int .u8 ((v % 256 : Nat) : Int))) := by
  obtain ⟨_, _, _, h4, _, _, h7, _, h9⟩ := h.apart
  obtain ⟨n0, hn⟩ := h.wt
  have hk : Kept (fun k => k = Λ.kb) w (w.setCell ⟨Λ.kb, i, none⟩ (.int .u8 ((v % 256 : Nat) : Int))) := (Kept.refl (fun k => k = Λ.kb) w).setCell (p := ⟨Λ.kb, i, none⟩) (.inl rfl) _
  have hz := sizeC_le h.ok
  have hz2 : μ.size ≤ 200000 := hz.1
  exact ⟨h.env.kept hk fun k ht => (h.tabs k ht).2.2, h.ok, hk.whole h.m h4, ⟨n0, hk.whole hn h7⟩, hk.whole h.ar h9, h.by_.kept hk h.ne, h.ki.put hi (by omega) v, h.ne, h.gc, h.kc⟩
theorem HasM.a (h : HasM Λ μ w) : ArA Λ.ab Λ.gb Λ.gc μ.size μ.b w := ⟨h.ar, h.by_, h.gc⟩
theorem HasM.wa (h : HasM Λ μ w) : WaA Λ.wb Λ.kb Λ.kc (μ.size / 4) μ.k w := ⟨h.wt, h.ki, h.kc⟩
theorem HasM.setA (h : HasM Λ μ w) {b : Tr} (hk : Kept (fun k => k = Λ.gb) w w') (ha : ArA Λ.ab Λ.gb Λ.gc μ.size b w') : MG Λ w { μ with b := b } w' := by
  obtain ⟨_, _, h3, _, _, h6, _, h8, _⟩ := h.apart
  obtain ⟨n0, hn⟩ := h.wt
  exact ⟨⟨h.env.kept hk fun k ht => (h.tabs k ht).2.1, h.ok, hk.whole h.m h3, ⟨n0, hk.whole hn h6⟩, ha.1, ha.2.1, h.ki.kept hk (Ne.symm h.ne), h.ne, h.gc, h.kc⟩, hk.mono fun k _ e => .inr (.inl e)⟩
theorem HasM.setW (h : HasM Λ μ w) {k : Tr} (hk : Kept (fun k => k = Λ.kb) w w') (ha : WaA Λ.wb Λ.kb Λ.kc (μ.size / 4) k w') : MG Λ w { μ with k := k } w' := by
  obtain ⟨_, _, _, h4, _, _, h7, _, h9⟩ := h.apart
  exact ⟨⟨h.env.kept hk fun k ht => (h.tabs k ht).2.2, h.ok, hk.whole h.m h4, ha.1, hk.whole h.ar h9, h.by_.kept hk h.ne, ha.2.1, h.ne, h.gc, h.kc⟩, hk.mono fun k _ e => .inr (.inr e)⟩
theorem HasM.cfg {s n : Nat} {b k : Tr} (h : HasM Λ μ w) : okC μ.slabs μ.slots = true := h.ok
theorem MG.refl (h : HasM Λ μ w) : MG Λ w μ w := ⟨h, Kept.refl _ _⟩
theorem MG.trans {μ' : Mm} {w1 : World} (h : MG Λ w μ w1) (k : MG Λ w1 μ' w') : MG Λ w μ' w' := ⟨k.has, h.kept.trans k.kept⟩
theorem MG.below {w1 : World} (h : MG Λ w μ w1) (hb : Below w1.heap.size w1 w') : MG Λ w μ w' := ⟨h.has.below hb, h.kept.trans (Kept.below hb _)⟩
theorem MG.after {w1 : World} (hb : Below w.heap.size w w1) (h : MG Λ w1 μ w') : MG Λ w μ w' := ⟨h.has, (Kept.below hb _).trans h.kept⟩
theorem MG.alloc {w1 : World} (h : MG Λ w μ w1) (o : Obj) : MG Λ w μ (w1.alloc o) := h.below ((Below.refl _ w1).alloc (Nat.le_refl _) o)
theorem MG.drew {w1 : World} (h : MG Λ w μ w1) : MG Λ w μ w1.drew := h.below (Below.refl _ w1).drew
theorem MG.drewN {w1 : World} (h : MG Λ w μ w1) (n : Nat) : MG Λ w μ (w1.drewN n) := h.below (below_of_drewN w1 n)
end
end Go.Proofs.YtoafmlegamjlpaaGreatDoor
namespace Go.Proofs.YtoafmlegamjlpaaGreatDoor
open Go.RowKit Go.Colm Go.Cap
set_option linter.unusedVariables false
def widthP (w : Nat) : Prop := w = 1 ∨ w = 2 ∨ w = 4 ∨ w = 8
set_option maxHeartbeats 800000 in
theorem width_any (n : Nat) (w : World) (h : widthP n) : Calls Tryz.prog 163 #[.int .i64 (n : Int)] w fun e w' => e = .returned (.bool true) ∧ w' = w := by
  go_enter Tryz.func163, Tryz.ntmps163
  rcases h with rfl | rfl | rfl | rfl
  all_goals
    go_wp2
    go_ret
    exact ⟨rfl, rfl⟩
set_option maxHeartbeats 3200000 in
theorem divides_any (b n : Nat) (w : World) (hb : 1 ≤ b) (h1 : b < 8589934592) (h2 : n < 8589934592) : Calls Tryz.prog 164 #[.int .i64 (b : Int), .int .i64 (n : Int)] w fun e w' => e = .returned (.bool ((n : Int) % (b : Int) == 0)) ∧ w' = w := by
  go_enter Tryz.func164, Tryz.ntmps164
  go_wp2_with fail
  go_ret
  exact ⟨rfl, rfl⟩
set_option maxHeartbeats 3200000 in
/-- Why a place may not be. -/
theorem place_ok (n at_ b : Nat) (w : World) (hb : widthP b) (hd : at_ % b = 0) (hr : at_ + b ≤ n) (h2 : n < 8589934592) : Calls Tryz.prog 94 #[.int .i64 (n : Int), .int .i64 (at_ : Int), .int .i64 (b : Int)] w fun e w' => e = .returned (.int .i64 0) ∧ w' = w := by
  have HW := Lib.hid (width_any b w hb)
  have h1 : 1 ≤ b ∧ b ≤ 8 := by rcases hb with rfl | rfl | rfl | rfl <;> omega
  have HD := Lib.hid (divides_any b at_ w h1.1 (by omega) (by omega))
  have e : ((at_ : Int) % (b : Int) == 0) = true := by rw [beq_iff_eq, ← Int.natCast_emod, hd]; rfl
  rw [e] at HD
  obtain ⟨h3, h4⟩ := h1
  clear e hd hb
  go_enter Tryz.func94, Tryz.ntmps94
  go_wp2_with fail
  refine HW.out.mono ?_
  rintro e w1 ⟨rfl, rfl⟩
  go_wp2_with fail
  refine HD.out.mono ?_
  rintro e w1 ⟨rfl, rfl⟩
  go_wp2_with fail
  go_ret
  exact ⟨rfl, rfl⟩

/-- A number in bytes, the lowest first. -/
def leF (f : Nat → Nat) : Nat → Nat
  | 0 => 0
  | n + 1 => f 0 + 256 * leF (fun j => f (j + 1)) n
theorem leF_succ : ∀ (k : Nat) (f : Nat → Nat), leF f (k + 1) = leF f k + f k * 256 ^ k
  | 0, f => by simp [leF]
  | k + 1, f => by
    rw [leF, leF_succ k, leF, Nat.pow_succ, Nat.mul_add, Nat.add_assoc, Nat.mul_comm (256 ^ k) 256, ← Nat.mul_assoc (f (k + 1)) 256, Nat.mul_comm (f (k + 1)) 256, Nat.mul_assoc]
theorem leF_lt : ∀ (k : Nat) (f : Nat → Nat), (∀ j, f j < 256) → leF f k < 256 ^ k
  | 0, f, _ => by simp [leF]
  | k + 1, f, h => by
    have h1 := h 0
    have h2 := leF_lt k (fun j => f (j + 1)) fun j => h (j + 1)
    rw [leF, Nat.pow_succ]
    omega
theorem or_step {k v x : Nat} (hv : v < 256 ^ k) (hx : x < 256) (hk : k ≤ 7) (m : Int) (hm : m = ((x * 256 ^ k : Nat) : Int)) : bits .or .u64 (v : Int) m = ((v + x * 256 ^ k : Nat) : Int) := by
  have hp : 256 ^ k ≤ 256 ^ 7 := Nat.pow_le_pow_right (by decide) hk
  have h1 : x * 256 ^ k ≤ 255 * 256 ^ 7 := Nat.mul_le_mul (by omega) hp
  have e7 : 256 ^ 7 = 72057594037927936 := by decide
  rw [hm, u64_or_nat _ _ (by omega) (by omega)]
  congr 1
  have e : 256 ^ k = 2 ^ (8 * k) := by rw [Nat.pow_mul]
  rw [e] at hv ⊢
  have := Nat.two_pow_add_eq_or_of_lt hv x
  rw [Nat.or_comm, Nat.mul_comm x, ← this, Nat.add_comm]
set_option maxHeartbeats 3200000 in
theorem load_ok (g off len cap at_ b : Nat) (f : Nat → Nat) (w : World) (hb : widthP b) (hd : at_ % b = 0) (hr : at_ + b ≤ len) (h2 : len < 8589934592) (hf : ∀ j, f j < 256) (hc : ∀ j, j < b → w.cell? ⟨g, off + (at_ + j), none⟩ = some (.int .u8 (f j : Int))) :
    Calls Tryz.prog 53 #[.slice (some ⟨g, off, none⟩) len cap, .int .i64 (at_ : Int), .int .i64 (b : Int)] w fun e w' => e = .returned (.tuple #[.int .u64 (leF f b : Nat), .int .i64 0]) ∧ w' = w := by
  have HP := Lib.hid (place_ok len at_ b w hb hd hr h2)
  have HC := Lib.hid hc
  have HF := Lib.hid hf
  have HB := Lib.hid hb
  have h8 : b ≤ 8 := by rcases hb with rfl | rfl | rfl | rfl <;> omega
  clear hc hf hd hb
  go_enter Tryz.func53, Tryz.ntmps53
  go_wp2_with fail
  refine HP.out.mono ?_
  rintro e w1 ⟨rfl, rfl⟩
  go_wp2_with fail
  go_loop [9, 10, 20] (fun s9 _ s20 => ∃ k v : Nat, k ≤ b ∧ s20 = .int .i64 k ∧ s9 = .int .u64 v ∧ Hid (v = leF f k)) (fun _ _ s20 => match s20 with | .int _ m => b - m.toNat | _ => 0)
  case atStart => exact ⟨0, 0, Nat.zero_le _, rfl, rfl, Lib.hid rfl⟩
  case round =>
    obtain ⟨k, v, hk, rfl, rfl, HV⟩ := hrel
    by_cases hlt : k < b
    · have hc := HC.out k hlt
      have hf := HF.out k
      have HN : Hid (∀ m : Int, m = ((f k * 256 ^ k : Nat) : Int) → Value.int .u64 (bits .or .u64 (v : Int) m) = Value.int .u64 (leF f (k + 1) : Nat)) := Lib.hid fun m hm => by
        rw [or_step (by rw [HV.out]; exact leF_lt k f HF.out) hf (by omega) m hm, HV.out, ← leF_succ]
      have hk8 : k = 0 ∨ k = 1 ∨ k = 2 ∨ k = 3 ∨ k = 4 ∨ k = 5 ∨ k = 6 ∨ k = 7 := by omega
      rcases hk8 with rfl | rfl | rfl | rfl | rfl | rfl | rfl | rfl
      all_goals
        try rw [Nat.add_zero] at hc
        go_wp2_with fail
        go_round
        case rel => exact ⟨_, _, hlt, rfl, HN.out _ (by simp), Lib.hid rfl⟩
        case measure => simp; omega
    · have hkk : k = b := by omega
      go_wp2
      go_ret2
      exact ⟨by rw [HV.out, hkk]; rfl, rfl⟩
end Go.Proofs.YtoafmlegamjlpaaGreatDoor
namespace Go.Proofs.YtoafmlegamjlpaaGreatDoor
open Go.RowKit Go.Colm Go.Cap
set_option linter.unusedVariables false
section
variable {Λ : MLay} {μ : Mm} {w : World}
set_option maxHeartbeats 800000 in
theorem wnone_W {wb kb kc n : Nat} {t : Tr} (h : WaA wb kb kc n t w) : Calls Tryz.prog 169 #[.pointer (some ⟨wb, 0, none⟩)] w fun e w' => e = .returned (.bool false) ∧ w' = w := by
  obtain ⟨⟨c, hn⟩, _, _⟩ := h
  have c0 := hn.cell 0
  simp only [List.getElem?_toArray, List.getElem?_cons_zero] at c0
  have q22 : ∀ (w : World) (a : Option Addr) (n c n' c' : Nat), (binOp .eql 22 (.slice a n c) (.slice none n' c')).run Tryz.prog w = .ok (.bool a.isNone) w := fun w a n c n' c' => Lib.run_eql_slice_nil w _ _ a n c n' c' Tryz.underlying22
  clear hn
  go_enter Tryz.func169, Tryz.ntmps169
  go_wp2
  go_ret
  exact ⟨rfl, rfl⟩
theorem wnone_any (h : HasM Λ μ w) : Calls Tryz.prog 169 #[.pointer (some ⟨Λ.wb, 0, none⟩)] w fun e w' => e = .returned (.bool false) ∧ w' = w := wnone_W h.wa
theorem HasM.sz (h : HasM Λ μ w) : μ.size ≤ 200000 ∧ 8000 ≤ μ.size ∧ μ.size % 16 = 0 := by
  have := sizeC_le h.ok
  exact ⟨this.1, this.2.1, this.2.2.1⟩
set_option maxHeartbeats 800000 in
theorem wsize_W {wb kb kc n : Nat} {t : Tr} (h : WaA wb kb kc n t w) (hn5 : n ≤ 300000) : Calls Tryz.prog 228 #[.pointer (some ⟨wb, 0, none⟩)] w fun e w' => e = .returned (.int .i64 ((4 * n : Nat) : Int)) ∧ w' = w := by
  obtain ⟨⟨c, hn⟩, _, _⟩ := h
  have c0 := hn.cell 0
  simp only [List.getElem?_toArray, List.getElem?_cons_zero] at c0
  clear hn
  go_enter Tryz.func228, Tryz.ntmps228
  go_wp2
  go_ret
  exact ⟨ret_int (by omega), rfl⟩
set_option maxHeartbeats 800000 in
theorem fits_W {wb kb kc N : Nat} {t : Tr} (h : WaA wb kb kc N t w) (hn5 : N ≤ 300000) (a n : Nat) (hr : a + n ≤ 4 * N) : Calls Tryz.prog 170 #[.pointer (some ⟨wb, 0, none⟩), .int .i64 (a : Int), .int .i64 (n : Int)] w fun e w' => e = .returned (.bool true) ∧ w' = w := by
  have HS := Lib.hid (wsize_W h hn5)
  obtain ⟨z, hz⟩ : ∃ z, z = 4 * N := ⟨_, rfl⟩
  have z1 : z ≤ 1200000 := by omega
  rw [← hz] at HS hr
  clear hz h hn5
  go_enter Tryz.func170, Tryz.ntmps170
  go_wp2_with fail
  refine HS.out.mono ?_
  rintro e w1 ⟨rfl, rfl⟩
  go_wp2_with fail
  refine HS.out.mono ?_
  rintro e w1 ⟨rfl, rfl⟩
  go_wp2_with fail
  go_ret
  exact ⟨ret_bool (by simp; omega), rfl⟩
theorem fits_ok (h : HasM Λ μ w) (a n : Nat) (hr : a + n ≤ μ.size) : Calls Tryz.prog 170 #[.pointer (some ⟨Λ.wb, 0, none⟩), .int .i64 (a : Int), .int .i64 (n : Int)] w fun e w' => e = .returned (.bool true) ∧ w' = w := by
  have := h.sz
  exact fits_W h.wa (by omega) a n (by omega)
theorem all_f {t : Tr} {a v : Nat} : ∀ {n : Nat}, t.all a n v = false → ∃ m, a ≤ m ∧ m < a + n ∧ t.get m ≠ v := by
  intro n h
  refine Classical.byContradiction fun hc => ?_
  have : t.all a n v = true := (Tr.all_iff n t a v).2 fun m h1 h2 => Classical.byContradiction fun hv => hc ⟨m, h1, h2, hv⟩
  rw [h] at this
  cases this
set_option maxHeartbeats 1600000 in
theorem kind_ok (h : HasM Λ μ w) (a n : Nat) (hn : 1 ≤ n) (hr : a + n ≤ μ.size) : Calls Tryz.prog 291 #[.pointer (some ⟨Λ.wb, 0, none⟩), .int .i64 (a : Int), .int .i64 (n : Int)] w fun e w' => e = .returned (.int .i64 (μ.kindAt a n : Nat)) ∧ w' = w := by
  have HN := Lib.hid (wnone_any h)
  have HF := Lib.hid (fits_ok h a n hr)
  obtain ⟨z1, z2, z3⟩ := h.sz
  obtain ⟨k0, hk0⟩ := h.wt
  have c0 := hk0.cell 0
  simp only [List.getElem?_toArray, List.getElem?_cons_zero] at c0
  have HK := Lib.hid h.ki
  have hkc := h.kc
  have HE : Hid (μ.kindAt a n = if μ.k.all (a / 4) ((a + n + 3) / 4 - a / 4) (μ.k.get (a / 4)) = true then μ.k.get (a / 4) else 0) := Lib.hid (by rw [Mm.kindAt, if_neg (by omega)])
  obtain ⟨z, hz⟩ : ∃ z, z = μ.size := ⟨_, rfl⟩
  rw [← hz] at z1 z2 z3 HK hr hkc c0
  obtain ⟨q, hq⟩ : ∃ q, q = z / 4 := ⟨_, rfl⟩
  rw [← hq] at HK hkc c0
  have hq1 : (a + n + 3) / 4 ≤ q := by omega
  have hq2 : q ≤ 50000 := by omega
  obtain ⟨f, hf⟩ : ∃ f, f = a / 4 := ⟨_, rfl⟩
  obtain ⟨t, ht⟩ : ∃ t, t = (a + n + 3) / 4 := ⟨_, rfl⟩
  have hft : f < t := by omega
  have ef : (a : Int) / 4 = (f : Int) := by omega
  have et : ((a : Int) + (n : Int) + 4 - 1) / 4 = (t : Int) := by omega
  rw [← ht] at hq1
  rw [← hf, ← ht] at HE
  have EF := Lib.hid ef
  have ET := Lib.hid et
  clear hz hq z3 hk0 h hf ht ef et
  go_enter Tryz.func291, Tryz.ntmps291
  go_wp2_with fail
  go_step3
  go_wp2_with fail
  refine HN.out.mono ?_
  rintro e w1 ⟨rfl, rfl⟩
  go_wp2_with fail
  refine HF.out.mono ?_
  rintro e w1 ⟨rfl, rfl⟩
  have ef := EF.out
  have et := ET.out
  have hcf : w1.cell? ⟨Λ.kb, f, none⟩ = some (.int .u8 (μ.k.get f : Int)) := HK.out.cell (by omega)
  obtain ⟨y, hy⟩ : ∃ y, y = μ.k.get f := ⟨_, rfl⟩
  rw [← hy] at hcf
  rw [← hy] at HE
  have hy256 : y < 256 := by rw [hy]; exact Tr.get_lt _ _
  clear hy
  go_wp2_with fail
  go_step3
  go_wp2_with fail
  clear ef et
  go_loop [8, 10, 42] (fun s8 _ s42 => ∃ j : Nat, j ≤ t - f ∧ s42 = .int .i64 j ∧ s8 = .int .u8 (y : Int) ∧ Hid (∀ m, f ≤ m → m < f + j → μ.k.get m = y)) (fun _ _ s42 => match s42 with | .int _ m => (t - f) - m.toNat | _ => 0)
  case atStart => exact ⟨0, Nat.zero_le _, rfl, rfl, Lib.hid (fun m h1 h2 => by omega)⟩
  case round =>
    obtain ⟨j, hj, rfl, rfl, HA⟩ := hrel
    by_cases hlt : j < t - f
    · have hcj : w1.cell? ⟨Λ.kb, f + j, none⟩ = some (.int .u8 (μ.k.get (f + j) : Int)) := HK.out.cell (by omega)
      by_cases he : μ.k.get (f + j) = y
      · rw [he] at hcj
        go_wp2_with fail
        go_round
        case rel => exact ⟨j + 1, by omega, by go_num, rfl, Lib.hid fun m h1 h2 => by
          by_cases e : m = f + j
          · rw [e]; exact he
          · exact HA.out m h1 (by omega)⟩
        case measure => simp; omega
      · have hg : μ.k.get (f + j) < 256 := Tr.get_lt _ _
        obtain ⟨x, hx⟩ : ∃ x, x = μ.k.get (f + j) := ⟨_, rfl⟩
        rw [← hx] at hcj hg he
        have hne : ¬ ((x : Int) = (y : Int)) := by omega
        go_wp2_with fail
        try rw [Exit.noGoto_ret]
        go_ret
        refine ⟨ret_int ?_, rfl⟩
        rw [HE.out, if_neg (fun h => he (by rw [hx]; exact (Tr.all_iff _ _ _ _).1 h (f + j) (by omega) (by omega)))]
        rfl
    · have hjj : j = t - f := by omega
      go_wp2_with fail
      try rw [Exit.noGoto_ret]
      go_ret
      refine ⟨ret_int ?_, rfl⟩
      rw [HE.out, if_pos ((Tr.all_iff _ _ _ _).2 fun m h1 h2 => HA.out m h1 (by omega))]

theorem nbeq {a b : Nat} : Nat.beq a b = true ↔ a = b := ⟨Nat.eq_of_beq_eq_true, Tr.beq_t⟩
theorem widthB_iff {b : Nat} : Mm.widthB b = true ↔ widthP b := by
  unfold Mm.widthB widthP
  simp only [Bool.or_eq_true, nbeq]
  constructor
  · rintro (((h | h) | h) | h) <;> simp [h]
  · rintro (h | h | h | h) <;> simp [h]
theorem may_iff {a b kind : Nat} : μ.may a b kind = true ↔ widthP b ∧ a % b = 0 ∧ kind ≠ 0 ∧ μ.kindAt a b = kind := by
  unfold Mm.may
  simp only [Bool.and_eq_true, widthB_iff, nbeq, Bool.not_eq_true']
  constructor
  · rintro ⟨⟨⟨h1, h2⟩, h3⟩, h4⟩
    exact ⟨h1, h2, (fun e => by rw [e] at h3; cases h3), h4⟩
  · rintro ⟨h1, h2, h3, h4⟩
    exact ⟨⟨⟨h1, h2⟩, Tr.beq_f h3⟩, h4⟩
theorem kindAt_in {a b kind : Nat} (h : μ.kindAt a b = kind) (hk : kind ≠ 0) : a + b ≤ μ.size := by
  unfold Mm.kindAt at h
  split at h
  · exact absurd h.symm hk
  · omega
theorem kindAt_lt {a b : Nat} : μ.kindAt a b < 256 := by
  unfold Mm.kindAt
  split
  · decide
  · split
    · exact Tr.get_lt _ _
    · decide
set_option maxHeartbeats 1600000 in
theorem may_ok (h : HasM Λ μ w) (a b kind : Nat) (hm : μ.may a b kind = true) : Calls Tryz.prog 259 #[.pointer (some ⟨Λ.wb, 0, none⟩), .int .i64 (a : Int), .int .i64 (b : Int), .int .i64 (kind : Int)] w fun e w' => e = .returned (.bool true) ∧ w' = w := by
  obtain ⟨h1, h2, h3, h4⟩ := may_iff.1 hm
  have hin := kindAt_in h4 h3
  have hz := h.sz.1
  have HK := Lib.hid (kind_ok h a b (by rcases h1 with rfl | rfl | rfl | rfl <;> omega) hin)
  have hk256 : kind < 256 := by rw [← h4]; exact kindAt_lt
  rw [h4] at HK
  have h3' : ¬ ((kind : Int) = 0) := by omega
  have hmod : (a : Int) % (b : Int) = 0 := by rw [← Int.natCast_emod, h2]; rfl
  have HM := Lib.hid hmod
  have ha : a ≤ 200000 := by omega
  clear hm h2 h4 hin hz h hmod
  go_enter Tryz.func259, Tryz.ntmps259
  rcases h1 with rfl | rfl | rfl | rfl
  all_goals
    have hmod := HM.out
    first | rw [show ((1 : Nat) : Int) = 1 from rfl] at hmod | rw [show ((2 : Nat) : Int) = 2 from rfl] at hmod | rw [show ((4 : Nat) : Int) = 4 from rfl] at hmod | rw [show ((8 : Nat) : Int) = 8 from rfl] at hmod
    go_wp2_with fail
    refine HK.out.mono ?_
    rintro e w1 ⟨rfl, rfl⟩
    go_wp2_with fail
    go_ret
    exact ⟨ret_bool (by simp [h3]), rfl⟩
set_option maxHeartbeats 1600000 in
theorem look_ok (h : HasM Λ μ w) (a b kind : Nat) (hm : μ.may a b kind = true) : Calls Tryz.prog 214 #[.pointer (some ⟨Λ.wb, 0, none⟩), .int .i64 (a : Int), .int .i64 (b : Int), .int .i64 (kind : Int)] w fun e w' => e = .returned (.bool true) ∧ MG Λ w μ w' := by
  have HN := Lib.hid (wnone_any h)
  have hmay := fun n => may_ok (h.looked n) a b kind hm
  have HMAY := Lib.hid hmay
  obtain ⟨n, hn⟩ := h.wt
  have c1 := hn.cell 1
  simp only [List.getElem?_toArray, List.getElem?_cons_zero, List.getElem?_cons_succ] at c1
  have f1 := hn.frozen 1
  have HH := Lib.hid h
  clear hmay hn h hm
  go_enter Tryz.func214, Tryz.ntmps214
  go_wp2_with fail
  refine HN.out.mono ?_
  rintro e w1 ⟨rfl, rfl⟩
  go_wp2_with fail
  refine (HMAY.out _).mono ?_
  rintro e w2 ⟨rfl, rfl⟩
  go_wp2_with fail
  go_ret
  exact ⟨rfl, HH.out.looked _, (Kept.refl (MOwn Λ) w1).setCell (p := ⟨Λ.wb, 1, none⟩) (.inl (.inl rfl)) _⟩

theorem HasM.mc (h : HasM Λ μ w) : w.cell? ⟨Λ.mb, 0, none⟩ = some (.pointer (some ⟨Λ.wb, 0, none⟩)) ∧ w.cell? ⟨Λ.mb, 1, none⟩ = some (.pointer (some ⟨Λ.ab, 0, none⟩)) ∧ w.cell? ⟨Λ.mb, 2, none⟩ = some (.int .i64 (μ.slabs : Int)) ∧ w.cell? ⟨Λ.mb, 3, none⟩ = some (.int .i64 (μ.slots : Int)) :=
  ⟨h.m.cell 0, h.m.cell 1, h.m.cell 2, h.m.cell 3⟩
set_option maxHeartbeats 800000 in
theorem mnone_any (h : HasM Λ μ w) : Calls Tryz.prog 43 #[.pointer (some ⟨Λ.mb, 0, none⟩)] w fun e w' => e = .returned (.bool false) ∧ w' = w := by
  obtain ⟨_, c1, _, _⟩ := h.mc
  clear h
  go_enter Tryz.func43, Tryz.ntmps43
  go_wp2
  go_ret
  exact ⟨rfl, rfl⟩
set_option maxHeartbeats 800000 in
theorem anone_A {ab gb gc n : Nat} {t : Tr} (h : ArA ab gb gc n t w) : Calls Tryz.prog 77 #[.pointer (some ⟨ab, 0, none⟩)] w fun e w' => e = .returned (.bool false) ∧ w' = w := by
  have c0 := h.1.cell 0
  simp only [List.getElem?_toArray, List.getElem?_cons_zero] at c0
  have q22 : ∀ (w : World) (a : Option Addr) (n c n' c' : Nat), (binOp .eql 22 (.slice a n c) (.slice none n' c')).run Tryz.prog w = .ok (.bool a.isNone) w := fun w a n c n' c' => Lib.run_eql_slice_nil w _ _ a n c n' c' Tryz.underlying22
  clear h
  go_enter Tryz.func77, Tryz.ntmps77
  go_wp2
  go_ret
  exact ⟨rfl, rfl⟩
theorem anone_any (h : HasM Λ μ w) : Calls Tryz.prog 77 #[.pointer (some ⟨Λ.ab, 0, none⟩)] w fun e w' => e = .returned (.bool false) ∧ w' = w := anone_A h.a
theorem leF_load : ∀ (b : Nat) (t : Tr) (a : Nat), leF (fun j => t.get (a + j)) b = t.load a b
  | 0, t, a => rfl
  | b + 1, t, a => by
    rw [leF, Tr.load, ← leF_load b]
    simp only [Nat.add_zero]
    congr 3
    funext j
    congr 1
    omega
set_option maxHeartbeats 1600000 in
theorem aget_A {ab gb gc n : Nat} {t : Tr} (h : ArA ab gb gc n t w) (hn5 : n ≤ 1200000) (a b : Nat) (hb : widthP b) (hd : a % b = 0) (hr : a + b ≤ n) : Calls Tryz.prog 100 #[.pointer (some ⟨ab, 0, none⟩), .int .i64 (a : Int), .int .i64 (b : Int)] w fun e w' => e = .returned (.tuple #[.int .u64 (t.load a b : Nat), .int .i64 0]) ∧ w' = w := by
  have HN := Lib.hid (anone_A h)
  have hl := load_ok gb 0 n gc a b (fun j => t.get (a + j)) w hb hd hr (by omega) (fun j => Tr.get_lt _ _) (fun j hj => by rw [Nat.zero_add]; exact h.2.1.cell (by omega))
  rw [leF_load] at hl
  have c0 := h.1.cell 0
  simp only [List.getElem?_toArray, List.getElem?_cons_zero] at c0
  have HL := Lib.hid hl
  clear h hl hb hd hr
  go_enter Tryz.func100, Tryz.ntmps100
  go_wp2_with fail
  refine HN.out.mono ?_
  rintro e w1 ⟨rfl, rfl⟩
  go_wp2_with fail
  refine HL.out.mono ?_
  rintro e w2 ⟨rfl, rfl⟩
  go_wp2_with fail
  go_ret2
  exact ⟨rfl, rfl⟩
theorem aget_ok (h : HasM Λ μ w) (a b : Nat) (hb : widthP b) (hd : a % b = 0) (hr : a + b ≤ μ.size) : Calls Tryz.prog 100 #[.pointer (some ⟨Λ.ab, 0, none⟩), .int .i64 (a : Int), .int .i64 (b : Int)] w fun e w' => e = .returned (.tuple #[.int .u64 (μ.b.load a b : Nat), .int .i64 0]) ∧ w' = w := by
  have := h.sz
  exact aget_A h.a (by omega) a b hb hd hr
theorem ld_some {a b kind v : Nat} (h : μ.ld a b kind = some v) : μ.may a b kind = true ∧ v = μ.b.load a b := by
  unfold Mm.ld at h
  split at h
  · rename_i h1
    exact ⟨h1, (Option.some.inj h).symm⟩
  · cases h
set_option maxHeartbeats 1600000 in
theorem mload_ok (h : HasM Λ μ w) (a b kind v : Nat) (hv : μ.ld a b kind = some v) : Calls Tryz.prog 245 #[.pointer (some ⟨Λ.mb, 0, none⟩), .int .i64 (a : Int), .int .i64 (b : Int), .int .i64 (kind : Int)] w fun e w' => e = .returned (.int .u64 (v : Int)) ∧ MG Λ w μ w' := by
  obtain ⟨hm, rfl⟩ := ld_some hv
  obtain ⟨h1, h2, h3, h4⟩ := may_iff.1 hm
  have hin := kindAt_in h4 h3
  have HN := Lib.hid (mnone_any h)
  have HL := Lib.hid (look_ok h a b kind hm)
  obtain ⟨c0, c1, _, _⟩ := h.mc
  have hget := fun (w' : World) (hw : MG Λ w μ w') => aget_ok hw.has a b h1 h2 hin
  have HG := Lib.hid hget
  obtain ⟨v, hv0⟩ : ∃ v, v = μ.b.load a b := ⟨_, rfl⟩
  rw [← hv0] at HG ⊢
  clear hv hm h1 h2 h3 h4 hin h hget hv0
  go_enter Tryz.func245, Tryz.ntmps245
  go_wp2_with fail
  refine HN.out.mono ?_
  rintro e w1 ⟨rfl, rfl⟩
  go_wp2_with fail
  refine HL.out.mono ?_
  rintro e w2 ⟨rfl, hg2⟩
  obtain ⟨d0, d1, _, _⟩ := hg2.has.mc
  have HG2 := Lib.hid hg2
  clear hg2
  go_wp2_with fail
  refine (HG.out _ HG2.out).mono ?_
  rintro e w3 ⟨rfl, rfl⟩
  go_wp2_with fail
  go_ret
  exact ⟨rfl, HG2.out⟩
end
end Go.Proofs.YtoafmlegamjlpaaGreatDoor
