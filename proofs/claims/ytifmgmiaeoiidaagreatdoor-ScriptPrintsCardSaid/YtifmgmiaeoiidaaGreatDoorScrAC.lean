/-
  The walk of layer script's told and Answers of answers that have no more than an error and a number. No condition.
-/
import Derived.Test.YtifmgmiaeoiidaaGreatDoorScrU
import Derived.Test.YtifmgmiaeoiidaaGreatDoorScrJ
namespace Go.Proofs.YtifmgmiaeoiidaaGreatDoor
open Go.RowKit Go.Colm Go.Scrp
set_option linter.unusedVariables false

abbrev ansC (E N : Int) : Array Value := #[.int .i64 E, .slice none 0 0, .int .i64 N, .int .i64 0, .bool false, .slice none 0 0, .int .i64 0, .int .i64 0, .int .i64 0, .int .i64 0, .int .i64 0, .int .i64 0, .int .i64 0, .slice none 0 0]
def wordsA (E N : Int) : List (List UInt8) := (if E = 0 then [[111, 107]] else [[101, 114, 114, 111, 114], Lib.itoa E]) ++ (if N = 0 then [] else [[110], Lib.itoa N])
/-- The words that are gathered, and the answer's copy. -/
structure TW (w : World) (E N : Int) (ws : List (List UInt8)) (W : World) : Prop where
  below : Below w.heap.size w W
  ans : Whole W w.heap.size 55 (ansC E N)
  row : ∃ v, Whole W (w.heap.size + 1 + 1) 71 #[v] ∧ W.ownsRow w.heap.size 9 1 v ws.length (txtV ws) ∧ v.ownBlock ≠ some w.heap.size ∧ v.ownBlock ≠ some (w.heap.size + 1 + 1)

theorem add_no (v : Value) (g : Nat) (w : World) : Calls Tryz.prog 81 #[.bool false, v, .pointer (some ⟨g, 0, none⟩)] w fun e w' => e = .returned (.tuple #[]) ∧ w' = w := by
  go_enter Tryz.func81, Tryz.ntmps81
  go_wp2_with fail
  go_end0
  exact ⟨rfl, rfl⟩
set_option maxRecDepth 100000 in
set_option maxHeartbeats 4000000 in
theorem keys_nil (w : World) : Calls Tryz.prog 82 #[.slice none 0 0] w fun e w' => (∃ T, e = .returned (.string T)) ∧ Below w.heap.size w w' := by
  have HJ := Lib.hid fun W => join_none ⟨#[44]⟩ W
  go_enter Tryz.func82, Tryz.ntmps82
  go_wp2_with fail
  go_loopw [3, 8] (fun v i wr => v = .slice none 0 0 ∧ i = .int .i64 0 ∧ wr = w) (fun _ i _ => 0)
  case atStart => exact ⟨rfl, rfl, rfl⟩
  case round =>
    obtain ⟨rfl, rfl, rfl⟩ := hrel
    go_wp2_with fail
    refine (HJ.out _).mono ?_
    rintro e w2 ⟨rfl, rfl⟩
    go_wp2_with fail
    go_ret
    exact ⟨⟨_, rfl⟩, Below.refl _ _⟩
/-- What the loop of stats carries. -/
structure StatLoop (w : World) (k : Nat) (v : Value) (wr : World) : Prop where
  row : wr.ownsRow w.heap.size 9 1 v k (txtV (List.replicate k (Lib.itoa 0)))
  below : Below w.heap.size w wr
  far : ∀ j, v.ownBlock = some j → w.heap.size + 1 < j
  src : Whole wr (w.heap.size + 1) 3 #[.int .i64 0, .int .i64 0, .int .i64 0, .int .i64 0, .int .i64 0, .int .i64 0, .int .i64 0]
  tabs : TabsB w.heap.size w
theorem StatLoop.app {w wr W w3 : World} {k : Nat} {v v' : Value} {D : ByteArray} (h : StatLoop w k v wr) (hb : Below wr.heap.size wr W) (hD : D = ⟨(Lib.itoa 0).toArray⟩)
    (hown : w3.ownsRow w.heap.size 9 1 v' (k + 1) (txtV (List.replicate k (Lib.itoa 0)) ++ [.string D])) (hg : (W.alloc (.cells #[.string D] 9)).grownBy w3 v.ownBlock) (hat : v'.ownBlock = v.ownBlock ∨ v'.ownBlock = some (W.alloc (.cells #[.string D] 9)).heap.size) : StatLoop w (k + 1) v' w3 := by
  have hs := hb.size
  have hs2 := h.below.size
  have hsrc := h.src.lt
  have hb3 := (below_chain h.below hb).trans ((Below.refl w.heap.size W).alloc (by omega) (.cells #[.string D] 9))
  have hk : Below w.heap.size w w3 := hb3.grown hg (by simp; omega) fun j e => by
    have := h.far j e
    omega
  refine ⟨?_, hk, ?_, ?_, ?_⟩
  · rw [List.replicate_succ', txtV_append]
    subst hD
    exact hown
  · intro j e
    rcases hat with e2 | e2
    · exact h.far j (e2 ▸ e)
    · rw [e2] at e
      have := Option.some.inj e
      simp at this
      omega
  · have h1 : Whole (W.alloc (.cells #[.string D] 9)) (w.heap.size + 1) 3 _ := ((Kept.refl (fun _ => False) W).alloc _).whole ((hb.block _ hsrc).trans h.src) id
    exact (Kept.grown hg).whole h1 (fun e => by
      have := h.far _ e
      omega)
  · exact h.tabs

set_option maxRecDepth 100000 in
set_option maxHeartbeats 8000000 in
theorem stats_zero (w : World) (ht : Tabs w) : Calls Tryz.prog 83 #[.agg #[.int .i64 0, .int .i64 0, .int .i64 0, .int .i64 0, .int .i64 0, .int .i64 0, .int .i64 0]] w fun e w' => (∃ T, e = .returned (.string T)) ∧ Below w.heap.size w w' := by
  obtain ⟨i0, hi, hz0, hz1, hz2⟩ := info_parts str_info
  have HIT := Lib.hid fun W (h : Tabs W) => itoa_any 0 (by decide) (by decide) W h
  have HT := Lib.hid ht
  clear ht
  go_enter Tryz.func83, Tryz.ntmps83
  go_wp2_with fail
  have HL0 : Hid (StatLoop w 0 (.slice none 0 0) ((w.alloc (.cells #[.int .i64 0, .int .i64 0, .int .i64 0, .int .i64 0, .int .i64 0, .int .i64 0, .int .i64 0] 52)).alloc (.cells #[.int .i64 0, .int .i64 0, .int .i64 0, .int .i64 0, .int .i64 0, .int .i64 0, .int .i64 0] 3))) :=
    Lib.hid (by
      have hb := ((Below.refl w.heap.size w).alloc (Nat.le_refl _) (.cells #[.int .i64 0, .int .i64 0, .int .i64 0, .int .i64 0, .int .i64 0, .int .i64 0, .int .i64 0] 52)).alloc (by simp) (.cells #[.int .i64 0, .int .i64 0, .int .i64 0, .int .i64 0, .int .i64 0, .int .i64 0, .int .i64 0] 3)
      have hx := Whole.new (w.alloc (.cells #[.int .i64 0, .int .i64 0, .int .i64 0, .int .i64 0, .int .i64 0, .int .i64 0, .int .i64 0] 52)) 3 #[.int .i64 0, .int .i64 0, .int .i64 0, .int .i64 0, .int .i64 0, .int .i64 0, .int .i64 0]
      rw [World.size_alloc] at hx
      exact ⟨own_nil _ _ _ _, hb, fun j e => (by simp [Value.ownBlock] at e), hx, TabsB.of HT.out⟩)
  go_loopw [3, 22] (fun v i wr => ∃ k : Nat, k ≤ 7 ∧ i = .int .i64 k ∧ Hid (StatLoop w k v wr)) (fun _ i _ => 7 - (intOf i).toNat)
  case atStart => exact ⟨0, by omega, rfl, HL0⟩
  case round =>
    obtain ⟨k, hk, rfl, HC⟩ := hrel
    clear HL0
    by_cases hlt : k < 7
    · have x0 : wr.cell? ⟨w.heap.size + 1, k, none⟩ = some (.int .i64 0) := by
        rw [HC.out.src.cell k]
        have : k = 0 ∨ k = 1 ∨ k = 2 ∨ k = 3 ∨ k = 4 ∨ k = 5 ∨ k = 6 := by omega
        rcases this with rfl | rfl | rfl | rfl | rfl | rfl | rfl <;> rfl
      obtain ⟨D, hD⟩ : ∃ D : ByteArray, D = ⟨(Lib.itoa 0).toArray⟩ := ⟨_, rfl⟩
      have hit := HIT.out wr (HC.out.tabs wr HC.out.below)
      rw [← hD] at hit
      have HITD := Lib.hid hit
      have HD := Lib.hid hD
      have hsz := HC.out.below.size
      clear hit hD
      go_wp2_with fail
      refine HITD.out.mono ?_
      rintro e w2 ⟨rfl, hb2⟩
      have HR2 := Lib.hid (own_kept (Kept.below hb2 (fun _ => False)) HC.out.row fun _ _ => id)
      have HB2 := Lib.hid hb2
      have hsz2 := hb2.size
      clear hb2
      go_wp2_with (at_builtin; refine wpList_append_own_at _ rfl _ _ 71 rfl w.heap.size 9 i0 (.string ByteArray.empty) 1 16 Tryz.underlying71 hi hz0 hz1 hz2 rfl (by decide) _ k _ rfl (own_kept ((Kept.refl (fun _ => False) _).alloc _) HR2.out fun _ _ => id) ⟨w2.heap.size, 0, none⟩ 1 1 [.string D] rfl rfl (cell_one_new _ _ _) (strs_one _ (by simp [isStr])) (by unfold maxLen; omega) (by omega) (by simp; omega) ?_; intro v3 w3 hown3 hg3 _ hat3; have HN3 := Lib.hid (StatLoop.app HC.out HB2.out HD.out hown3 hg3 hat3); obtain ⟨A3, c3, rfl, _⟩ := own_more hown3; clear hown3 hg3 hat3)
      go_wp2_with fail
      go_roundw
      case rel => exact ⟨k + 1, by omega, by go_num, HN3⟩
      case measure => simp [intOf]; omega
    · have hk7 : k = 7 := by omega
      subst hk7
      obtain ⟨A, c, rfl, hc, _, hr⟩ := own_more HC.out.row
      have hj := join_row A c (List.replicate 7 (Lib.itoa 0)) ⟨#[44]⟩ wr (by decide) (by simpa using hc) hr (by decide) (by decide +kernel)
      rw [List.length_replicate] at hj
      have HJ := Lib.hid hj
      have HBR := Lib.hid HC.out.below
      clear hj hr hc
      go_wp2_with fail
      refine HJ.out.mono ?_
      rintro e w2 ⟨rfl, hb2⟩
      have HF := Lib.hid (below_chain HBR.out hb2)
      clear hb2
      go_wp2_with fail
      go_ret
      exact ⟨⟨_, rfl⟩, HF.out⟩
theorem TW.next {w : World} {E N : Int} {ws : List (List UInt8)} {W W' : World} (h : TW w E N ws W) (hb : Below W.heap.size W W') : TW w E N ws W' := by
  obtain ⟨v, h1, h2, h3⟩ := h.row
  exact ⟨below_chain h.below hb, (hb.block _ h.ans.lt).trans h.ans, v, (hb.block _ h1.lt).trans h1, own_kept (Kept.below hb (fun _ => False)) h2 fun _ _ => id, h3⟩
theorem TW.alloc {w : World} {E N : Int} {ws : List (List UInt8)} {W : World} (h : TW w E N ws W) (o : Obj) : TW w E N ws (W.alloc o) := h.next ((Below.refl _ _).alloc (Nat.le_refl _) o)
theorem TW.drew {w : World} {E N : Int} {ws : List (List UInt8)} {W : World} (h : TW w E N ws W) : TW w E N ws W.drew := h.next (Below.refl _ _).drew
/-- The cells of the answer's copy. -/
def AC (w : World) (E N : Int) (W : World) : Prop := W.cell? ⟨w.heap.size, 1, none⟩ = some (.slice none 0 0) ∧ W.cell? ⟨w.heap.size, 2, none⟩ = some (.int .i64 N) ∧ W.cell? ⟨w.heap.size, 3, none⟩ = some (.int .i64 0) ∧ W.cell? ⟨w.heap.size, 4, none⟩ = some (.bool false) ∧ W.cell? ⟨w.heap.size, 5, none⟩ = some (.slice none 0 0) ∧
  W.cell? ⟨w.heap.size, 6, none⟩ = some (.int .i64 0) ∧ W.cell? ⟨w.heap.size, 7, none⟩ = some (.int .i64 0) ∧ W.cell? ⟨w.heap.size, 8, none⟩ = some (.int .i64 0) ∧ W.cell? ⟨w.heap.size, 9, none⟩ = some (.int .i64 0) ∧ W.cell? ⟨w.heap.size, 10, none⟩ = some (.int .i64 0) ∧ W.cell? ⟨w.heap.size, 11, none⟩ = some (.int .i64 0) ∧ W.cell? ⟨w.heap.size, 12, none⟩ = some (.int .i64 0)
theorem TW.cells {w : World} {E N : Int} {ws : List (List UInt8)} {W : World} (h : TW w E N ws W) : AC w E N W :=
  ⟨h.ans.cell 1, h.ans.cell 2, h.ans.cell 3, h.ans.cell 4, h.ans.cell 5, h.ans.cell 6, h.ans.cell 7, h.ans.cell 8, h.ans.cell 9, h.ans.cell 10, h.ans.cell 11, h.ans.cell 12⟩
theorem TW.app {w W3 w3 : World} {E N : Int} {ws : List (List UInt8)} {a b : List UInt8} {A B : ByteArray} {v v' : Value} (h : TW w E N ws W3) (hv : Whole W3 (w.heap.size + 1 + 1) 71 #[v]) (hf : v.ownBlock ≠ some w.heap.size ∧ v.ownBlock ≠ some (w.heap.size + 1 + 1)) (hA : A = ⟨a.toArray⟩) (hB : B = ⟨b.toArray⟩)
    (hown : w3.ownsRow w.heap.size 9 1 v' (ws.length + 2) (txtV ws ++ [.string A, .string B])) (hg : W3.grownBy w3 v.ownBlock) (hat : v'.ownBlock = v.ownBlock ∨ v'.ownBlock = some W3.heap.size) :
    w3.cell? ⟨w.heap.size + 1 + 1, 0, none⟩ = some v ∧ w3.frozen? ⟨w.heap.size + 1 + 1, 0, none⟩ = false ∧ TW w E N (ws ++ [a, b]) (w3.setCell ⟨w.heap.size + 1 + 1, 0, none⟩ v') := by
  have hk := Kept.grown hg
  have hv3 : Whole w3 (w.heap.size + 1 + 1) 71 #[v] := hk.whole hv hf.2
  have ha3 : Whole w3 w.heap.size 55 (ansC E N) := hk.whole h.ans hf.1
  have hvl := hv.lt
  have hal := h.ans.lt
  have hks : Kept (fun j => j = w.heap.size + 1 + 1) w3 (w3.setCell ⟨w.heap.size + 1 + 1, 0, none⟩ v') := (Kept.refl (fun j => j = w.heap.size + 1 + 1) w3).setCell (p := ⟨w.heap.size + 1 + 1, 0, none⟩) (.inl rfl) v'
  have hn1 : v'.ownBlock ≠ some w.heap.size := by
    rcases hat with e | e
    · rw [e]; exact hf.1
    · rw [e]
      intro e2
      have := Option.some.inj e2
      omega
  have hn2 : v'.ownBlock ≠ some (w.heap.size + 1 + 1) := by
    rcases hat with e | e
    · rw [e]; exact hf.2
    · rw [e]
      intro e2
      have := Option.some.inj e2
      omega
  refine ⟨hv3.cell 0, hv3.frozen 0, ?_, hks.whole ha3 (by omega), v', hv3.put 0 v', ?_, hn1, hn2⟩
  · refine (h.below.trans ?_).setCell (p := ⟨w.heap.size + 1 + 1, 0, none⟩) (by show w.heap.size ≤ w.heap.size + 1 + 1; omega) v'
    obtain ⟨v0, h1, h2, h3⟩ := h.row
    have e0 : v0 = v := by
      have c1 := h1.cell 0
      have c2 := hv.cell 0
      rw [c1] at c2
      exact Option.some.inj c2
    subst e0
    exact (Below.refl w.heap.size W3).grown hg h.below.size fun j e => own_from h2 e
  · rw [txtV_append]
    subst hA hB
    have hlen : (ws ++ [a, b]).length = ws.length + 2 := by simp
    rw [hlen]
    exact own_kept hks hown fun j e e2 => hn2 (by rw [e, e2])

set_option maxRecDepth 100000 in
set_option maxHeartbeats 8000000 in
theorem add_yes {w : World} {E N : Int} {ws : List (List UInt8)} (a b : List UInt8) (A B : ByteArray) (hA : A = ⟨a.toArray⟩) (hB : B = ⟨b.toArray⟩) {W : World} (h : TW w E N ws W) (hl : ws.length < 1000) :
    Calls Tryz.prog 81 #[.bool true, .slice (some ⟨W.heap.size, 0, none⟩) 2 2, .pointer (some ⟨w.heap.size + 1 + 1, 0, none⟩)] (W.alloc (.cells #[.string A, .string B] 9)) fun e w' => e = .returned (.tuple #[]) ∧ TW w E N (ws ++ [a, b]) w' := by
  obtain ⟨i0, hi, hz0, hz1, hz2⟩ := info_parts str_info
  have h2 := h.alloc (.cells #[.string A, .string B] 9)
  obtain ⟨v, hv, hown, hf1, hf2⟩ := h2.row
  have x0 : (W.alloc (.cells #[.string A, .string B] 9)).cell? ⟨w.heap.size + 1 + 1, 0, none⟩ = some v := hv.cell 0
  have hsz := h2.below.size
  obtain ⟨VA, vc, rfl, _⟩ := own_more hown
  have HH := Lib.hid h2
  have HV := Lib.hid hv
  have HO := Lib.hid hown
  have HF := Lib.hid (And.intro hf1 hf2)
  have HA := Lib.hid hA
  have HB := Lib.hid hB
  have HN := Lib.hid (World.news_of_block (Whole.new W 9 #[.string A, .string B]))
  clear h2 hv hown hf1 hf2 hA hB h
  go_enter Tryz.func81, Tryz.ntmps81
  go_wp2_with (at_builtin; refine wpList_append_own_at (w := W.alloc (.cells #[.string A, .string B] 9)) rfl _ _ 71 rfl w.heap.size 9 i0 (.string ByteArray.empty) 1 16 Tryz.underlying71 hi hz0 hz1 hz2 rfl (by decide) _ ws.length _ rfl HO.out ⟨W.heap.size, 0, none⟩ 2 2 [.string A, .string B] rfl rfl HN.out (strs_one _ (by simp [isStr])) (by unfold maxLen; omega) (by omega) hsz ?_; intro v3 w3 hown3 hg3 _ hat3; obtain ⟨A3, c3, rfl, _⟩ := own_more hown3; have HN3 := Lib.hid (TW.app HH.out HV.out HF.out HA.out HB.out hown3 hg3 hat3); have y0 := HN3.out.1; have g0 := HN3.out.2.1; clear hown3 hg3 hat3)
  go_end0
  exact ⟨rfl, HN3.out.2.2⟩
/-- What told's steps need, the answer's error and number at hand. -/
structure TE (w : World) (E N : Int) (DN : ByteArray) : Prop where
  num : ∀ W ws, TW w E N ws W → Calls Tryz.prog 47 #[.int .i64 N] W fun e w' => e = .returned (.string DN) ∧ TW w E N ws w'
  zero : ∀ W ws, TW w E N ws W → Calls Tryz.prog 47 #[.int .i64 0] W fun e w' => e = .returned (.string ⟨(Lib.itoa 0).toArray⟩) ∧ TW w E N ws w'
  no : ∀ W ws v, TW w E N ws W → Calls Tryz.prog 81 #[.bool false, v, .pointer (some ⟨w.heap.size + 1 + 1, 0, none⟩)] W fun e w' => e = .returned (.tuple #[]) ∧ TW w E N ws w'
  yes : ∀ W ws, TW w E N ws W → ws.length < 1000 → Calls Tryz.prog 81 #[.bool true, .slice (some ⟨W.heap.size, 0, none⟩) 2 2, .pointer (some ⟨w.heap.size + 1 + 1, 0, none⟩)] (W.alloc (.cells #[.string ⟨#[110]⟩, .string DN] 9)) fun e w' => e = .returned (.tuple #[]) ∧ TW w E N (ws ++ [[110], Lib.itoa N]) w'
  set : ∀ W ws, TW w E N ws W → Calls Tryz.prog 46 #[.slice none 0 0] W fun e w' => (∃ T, e = .returned (.string T)) ∧ TW w E N ws w'
  keys : ∀ W ws, TW w E N ws W → Calls Tryz.prog 82 #[.slice none 0 0] W fun e w' => (∃ T, e = .returned (.string T)) ∧ TW w E N ws w'
  stats : ∀ W ws, TW w E N ws W → Calls Tryz.prog 83 #[.agg #[.int .i64 0, .int .i64 0, .int .i64 0, .int .i64 0, .int .i64 0, .int .i64 0, .int .i64 0]] W fun e w' => (∃ T, e = .returned (.string T)) ∧ TW w E N ws w'
theorem te_any (w : World) (E N : Int) (DN : ByteArray) (hD : DN = ⟨(Lib.itoa N).toArray⟩) (hn : -9223372036854775808 ≤ N ∧ N ≤ 9223372036854775807) (ht : Tabs w) : TE w E N DN where
  num := fun W ws h => (itoa_any N hn.1 hn.2 W (ht.below h.below)).mono fun e w' ⟨h1, h2⟩ => ⟨by rw [h1, hD], h.next h2⟩
  zero := fun W ws h => (itoa_any 0 (by decide) (by decide) W (ht.below h.below)).mono fun e w' ⟨h1, h2⟩ => ⟨h1, h.next h2⟩
  no := fun W ws v h => (add_no v _ W).mono fun e w' ⟨h1, h2⟩ => ⟨h1, by rw [h2]; exact h⟩
  yes := fun W ws h hl => add_yes [110] (Lib.itoa N) ⟨#[110]⟩ DN rfl hD h hl
  set := fun W ws h => (set_any (fun _ => True) [] none 0 W (RecsAt.nil _ _ _) (by simp [bulk])).mono fun e w' ⟨h1, h2⟩ => ⟨⟨_, h1⟩, h.next h2⟩
  keys := fun W ws h => (keys_nil W).mono fun e w' ⟨h1, h2⟩ => ⟨h1, h.next h2⟩
  stats := fun W ws h => (stats_zero W (ht.below h.below)).mono fun e w' ⟨h1, h2⟩ => ⟨h1, h.next h2⟩

set_option maxRecDepth 100000 in
set_option maxHeartbeats 8000000 in
theorem told_ok (N : Int) (hn : -9223372036854775808 ≤ N ∧ N ≤ 9223372036854775807) (hN0 : N ≠ 0) (w : World) (ht : Tabs w) :
    Calls Tryz.prog 57 #[.agg (ansC 0 N)] w fun e w' => ∃ A c, e = .returned (.slice A (wordsA 0 N).length c) ∧ w'.ownsRow w.heap.size 9 1 (.slice A (wordsA 0 N).length c) (wordsA 0 N).length (txtV (wordsA 0 N)) ∧ Below w.heap.size w w' := by
  obtain ⟨DN, hDN⟩ : ∃ D : ByteArray, D = ⟨(Lib.itoa N).toArray⟩ := ⟨_, rfl⟩
  have HTE := Lib.hid (te_any w 0 N DN hDN hn ht)
  have h0 : TW w 0 N [[111, 107]] (((w.alloc (.cells (ansC 0 N) 55)).alloc (.cells #[.string ⟨#[111, 107]⟩] 9)).alloc (.cells #[.slice (some ⟨w.heap.size + 1, 0, none⟩) 1 1] 71)) := by
    have hb := (((Below.refl w.heap.size w).alloc (Nat.le_refl _) (.cells (ansC 0 N) 55)).alloc (by simp) (.cells #[.string ⟨#[111, 107]⟩] 9)).alloc (by simp; omega) (.cells #[.slice (some ⟨w.heap.size + 1, 0, none⟩) 1 1] 71)
    have ha : Whole (w.alloc (.cells (ansC 0 N) 55)) w.heap.size 55 (ansC 0 N) := Whole.new _ _ _
    have hs : Whole ((w.alloc (.cells (ansC 0 N) 55)).alloc (.cells #[.string ⟨#[111, 107]⟩] 9)) (w.heap.size + 1) 9 #[.string ⟨#[111, 107]⟩] := by
      have h := Whole.new (w.alloc (.cells (ansC 0 N) 55)) 9 #[.string ⟨#[111, 107]⟩]
      rw [World.size_alloc] at h
      exact h
    have hv := Whole.new ((w.alloc (.cells (ansC 0 N) 55)).alloc (.cells #[.string ⟨#[111, 107]⟩] 9)) 71 #[.slice (some ⟨w.heap.size + 1, 0, none⟩) 1 1]
    rw [World.size_alloc, World.size_alloc] at hv
    refine ⟨hb, ?_, _, hv, ⟨rfl, .inr ⟨w.heap.size + 1, 1, _, rfl, by omega, ((Kept.refl (fun _ => False) _).alloc _).whole hs id, Nat.le_refl _, by unfold maxLen; omega, rfl, rfl⟩⟩, ?_, ?_⟩
    · exact ((Kept.refl (fun _ => False) _).alloc _).whole (((Kept.refl (fun _ => False) _).alloc _).whole ha id) id
    · intro e
      have := Option.some.inj e
      dsimp only at this
      omega
    · intro e
      have := Option.some.inj e
      dsimp only at this
      omega
  have hS := h0.drew.cells
  have H0 := Lib.hid h0
  clear h0 hDN ht
  -- WALK
  have tN : (N != 0) = true := by rwa [bne_iff_ne]
  have hw : wordsA 0 N = [[111, 107]] ++ [[110], Lib.itoa N] := by simp [wordsA, hN0]
  rw [hw]
  clear hw
  go_enter Tryz.func57, Tryz.ntmps57
  go_wp2_with fail
  have h0 := H0.out.drew
  go_region_held3 (fun W => W.cell? ⟨w.heap.size, 2, none⟩ = some (.int .i64 N))
    (first | exact hS.2.1 | exact (TW.cells (by assumption)).2.1 | exact (TW.cells (TW.alloc (by assumption) _)).2.1)
    (first
      | ((go_at_call 47; with_reducible refine (HTE.out.num _ _ (by assumption)).mono ?_); rintro e w6 ⟨rfl, h6⟩)
      | ((go_at_call 81; with_reducible refine (HTE.out.yes _ _ (by assumption) (by simp)).mono ?_); rintro e w6 ⟨rfl, h6⟩))
  have H5 := Lib.hid h6
  clear h6 h0 hS
  have h0 := H5.out.drew
  have hS := h0.cells
  go_wp2_with fail
  go_region_held3 (fun W => W.cell? ⟨w.heap.size, 3, none⟩ = some (.int .i64 0))
    (first | exact hS.2.2.1 | exact (TW.cells (by assumption)).2.2.1 | exact (TW.cells (TW.alloc (by assumption) _)).2.2.1)
    (first
      | ((go_at_call 47; with_reducible refine (HTE.out.zero _ _ (by assumption)).mono ?_); rintro e w6 ⟨rfl, h6⟩)
      | ((go_at_call 81; with_reducible refine (HTE.out.no _ _ _ (TW.alloc (by assumption) _)).mono ?_); rintro e w6 ⟨rfl, h6⟩))
  have H6 := Lib.hid h6
  clear h6 h0 hS
  have hS := H6.out.cells
  have hc4 := hS.2.2.2.1
  go_wp2_with fail
  refine (HTE.out.no _ _ _ (H6.out.alloc _)).mono ?_
  rintro e w6 ⟨rfl, h6⟩
  have h0 : True := trivial
  have H7 := Lib.hid h6
  clear h6 h0 hS
  have h0 := H7.out.drew
  have hS := h0.cells
  go_wp2_with fail
  go_region_held3 (fun W => W.cell? ⟨w.heap.size, 1, none⟩ = some (.slice none 0 0))
    (first | exact hS.1 | exact (TW.cells (by assumption)).1 | exact (TW.cells (TW.alloc (by assumption) _)).1)
    (first
      | ((go_at_call 46; with_reducible refine (HTE.out.set _ _ (by assumption)).mono ?_); rintro e w6 ⟨⟨T, rfl⟩, h6⟩)
      | ((go_at_call 81; with_reducible refine (HTE.out.no _ _ _ (TW.alloc (by assumption) _)).mono ?_); rintro e w6 ⟨rfl, h6⟩))
  have H8 := Lib.hid h6
  clear h6 h0 hS
  have h0 := H8.out.drew
  have hS := h0.cells
  go_wp2_with fail
  go_region_held3 (fun W => W.cell? ⟨w.heap.size, 5, none⟩ = some (.slice none 0 0))
    (first | exact hS.2.2.2.2.1 | exact (TW.cells (by assumption)).2.2.2.2.1 | exact (TW.cells (TW.alloc (by assumption) _)).2.2.2.2.1)
    (first
      | ((go_at_call 82; with_reducible refine (HTE.out.keys _ _ (by assumption)).mono ?_); rintro e w6 ⟨⟨T, rfl⟩, h6⟩)
      | ((go_at_call 81; with_reducible refine (HTE.out.no _ _ _ (TW.alloc (by assumption) _)).mono ?_); rintro e w6 ⟨rfl, h6⟩))
  have H9 := Lib.hid h6
  clear h6 h0 hS
  have h0 := H9.out.drew
  have hS := h0.cells
  go_wp2_with fail
  go_region_held3 (fun W => W.cell? ⟨w.heap.size, 6, none⟩ = some (.int .i64 0) ∧ W.cell? ⟨w.heap.size, 7, none⟩ = some (.int .i64 0) ∧ W.cell? ⟨w.heap.size, 8, none⟩ = some (.int .i64 0) ∧ W.cell? ⟨w.heap.size, 9, none⟩ = some (.int .i64 0) ∧ W.cell? ⟨w.heap.size, 10, none⟩ = some (.int .i64 0) ∧ W.cell? ⟨w.heap.size, 11, none⟩ = some (.int .i64 0) ∧ W.cell? ⟨w.heap.size, 12, none⟩ = some (.int .i64 0))
    (first | exact hS.2.2.2.2.2 | exact (TW.cells (by assumption)).2.2.2.2.2 | exact (TW.cells (TW.alloc (by assumption) _)).2.2.2.2.2)
    (first
      | ((go_at_call 83; with_reducible refine (HTE.out.stats _ _ (by assumption)).mono ?_); rintro e w6 ⟨⟨T, rfl⟩, h6⟩)
      | ((go_at_call 81; with_reducible refine (HTE.out.no _ _ _ (TW.alloc (by assumption) _)).mono ?_); rintro e w6 ⟨rfl, h6⟩))
  obtain ⟨v, hv, hown, hf1, hf2⟩ := h6.row
  have x0 := hv.cell 0
  obtain ⟨VA, vc, rfl, _⟩ := own_more hown
  have HF := Lib.hid (And.intro hown h6.below)
  clear hv hown hf1 hf2 h6
  go_wp2_with fail
  go_ret
  exact ⟨_, _, rfl, HF.out.1, HF.out.2⟩
/-- A list of values that lies in a block of its own. -/
theorem told_base (E : Int) (w : World) : TW w E 0 [[111, 107]] (((w.alloc (.cells (ansC E 0) 55)).alloc (.cells #[.string ⟨#[111, 107]⟩] 9)).alloc (.cells #[.slice (some ⟨w.heap.size + 1, 0, none⟩) 1 1] 71)) := by
  have hb := (((Below.refl w.heap.size w).alloc (Nat.le_refl _) (.cells (ansC E 0) 55)).alloc (by simp) (.cells #[.string ⟨#[111, 107]⟩] 9)).alloc (by simp; omega) (.cells #[.slice (some ⟨w.heap.size + 1, 0, none⟩) 1 1] 71)
  have ha : Whole (w.alloc (.cells (ansC E 0) 55)) w.heap.size 55 (ansC E 0) := Whole.new _ _ _
  have hs : Whole ((w.alloc (.cells (ansC E 0) 55)).alloc (.cells #[.string ⟨#[111, 107]⟩] 9)) (w.heap.size + 1) 9 #[.string ⟨#[111, 107]⟩] := by
    have h := Whole.new (w.alloc (.cells (ansC E 0) 55)) 9 #[.string ⟨#[111, 107]⟩]
    rw [World.size_alloc] at h
    exact h
  have hv := Whole.new ((w.alloc (.cells (ansC E 0) 55)).alloc (.cells #[.string ⟨#[111, 107]⟩] 9)) 71 #[.slice (some ⟨w.heap.size + 1, 0, none⟩) 1 1]
  rw [World.size_alloc, World.size_alloc] at hv
  refine ⟨hb, ?_, _, hv, ⟨rfl, .inr ⟨w.heap.size + 1, 1, _, rfl, by omega, ((Kept.refl (fun _ => False) _).alloc _).whole hs id, Nat.le_refl _, by unfold maxLen; omega, rfl, rfl⟩⟩, ?_, ?_⟩
  · exact ((Kept.refl (fun _ => False) _).alloc _).whole (((Kept.refl (fun _ => False) _).alloc _).whole ha id) id
  · intro e
    have := Option.some.inj e
    dsimp only at this
    omega
  · intro e
    have := Option.some.inj e
    dsimp only at this
    omega
theorem told_swap {w w2 : World} {E : Int} {W0 : World} {D : ByteArray} (h : TW w E 0 [[111, 107]] W0) (hb : Below W0.heap.size W0 w2) (hD : D = ⟨(Lib.itoa E).toArray⟩) :
    TW w E 0 [[101, 114, 114, 111, 114], Lib.itoa E] ((w2.alloc (.cells #[.string ⟨#[101, 114, 114, 111, 114]⟩, .string D] 9)).setCell ⟨w.heap.size + 1 + 1, 0, none⟩ (.slice (some ⟨w2.heap.size, 0, none⟩) 2 2)) := by
  have h2 := (h.next hb).alloc (.cells #[.string ⟨#[101, 114, 114, 111, 114]⟩, .string D] 9)
  have hn := Whole.new w2 9 #[.string ⟨#[101, 114, 114, 111, 114]⟩, .string D]
  obtain ⟨v, hv, _, _, _⟩ := h2.row
  obtain ⟨v', hv', _, _, _⟩ := (h.next hb).row
  have hvl := hv'.lt
  have hks : Kept (fun j => j = w.heap.size + 1 + 1) (w2.alloc (.cells #[.string ⟨#[101, 114, 114, 111, 114]⟩, .string D] 9)) ((w2.alloc (.cells #[.string ⟨#[101, 114, 114, 111, 114]⟩, .string D] 9)).setCell ⟨w.heap.size + 1 + 1, 0, none⟩ (.slice (some ⟨w2.heap.size, 0, none⟩) 2 2)) := (Kept.refl (fun j => j = w.heap.size + 1 + 1) _).setCell (p := ⟨w.heap.size + 1 + 1, 0, none⟩) (.inl rfl) _
  have hsz := (h.next hb).below.size
  refine ⟨h2.below.setCell (p := ⟨w.heap.size + 1 + 1, 0, none⟩) (by show w.heap.size ≤ w.heap.size + 1 + 1; omega) _, hks.whole h2.ans (by omega), _, hv.put 0 _, ⟨rfl, .inr ⟨w2.heap.size, 2, _, rfl, hsz, hks.whole hn (by omega), Nat.le_refl _, by unfold maxLen; omega, rfl, by rw [hD]; rfl⟩⟩, ?_, ?_⟩
  · intro e
    have := Option.some.inj e
    dsimp only at this
    have hal := (h.next hb).ans.lt
    omega
  · intro e
    have := Option.some.inj e
    dsimp only at this
    omega
set_option maxRecDepth 100000 in
set_option maxHeartbeats 8000000 in
theorem told_err (E : Int) (he : -9223372036854775808 ≤ E ∧ E ≤ 9223372036854775807) (hE0 : E ≠ 0) (w : World) (ht : Tabs w) :
    Calls Tryz.prog 57 #[.agg (ansC E 0)] w fun e w' => ∃ A c, e = .returned (.slice A (wordsA E 0).length c) ∧ w'.ownsRow w.heap.size 9 1 (.slice A (wordsA E 0).length c) (wordsA E 0).length (txtV (wordsA E 0)) ∧ Below w.heap.size w w' := by
  obtain ⟨DZ, hDZ⟩ : ∃ D : ByteArray, D = ⟨(Lib.itoa 0).toArray⟩ := ⟨_, rfl⟩
  have HTE := Lib.hid (te_any w E 0 DZ hDZ (by decide) ht)
  obtain ⟨DE, hDE⟩ : ∃ D : ByteArray, D = ⟨(Lib.itoa E).toArray⟩ := ⟨_, rfl⟩
  have H00 := Lib.hid (told_base E w)
  have hit := itoa_any E he.1 he.2 _ (ht.below H00.out.below)
  rw [← hDE] at hit
  have HIT := Lib.hid hit
  have HDE := Lib.hid hDE
  have tE : (E != 0) = true := by rwa [bne_iff_ne]
  have hw : wordsA E 0 = [[101, 114, 114, 111, 114], Lib.itoa E] := by simp [wordsA, hE0]
  rw [hw]
  clear hw hit hDE hDZ ht
  go_enter Tryz.func57, Tryz.ntmps57
  go_wp2_with fail
  refine HIT.out.mono ?_
  rintro e w2 ⟨rfl, hb2⟩
  have h1 := told_swap H00.out hb2 HDE.out
  obtain ⟨v0, hv0, _, _, _⟩ := ((H00.out.next hb2).alloc (.cells #[.string ⟨#[101, 114, 114, 111, 114]⟩, .string DE] 9)).row
  have f0 := hv0.frozen 0
  have x0 := hv0.cell 0
  have H0 := Lib.hid h1
  have hS := h1.drew.cells
  have h0 := h1.drew
  clear h1 hv0 hb2
  go_wp2_with fail
  go_region_held3 (fun W => W.cell? ⟨w.heap.size, 2, none⟩ = some (.int .i64 0))
    (first | exact hS.2.1 | exact (TW.cells (by assumption)).2.1 | exact (TW.cells (TW.alloc (by assumption) _)).2.1)
    (first
      | ((go_at_call 47; with_reducible refine (HTE.out.zero _ _ (by assumption)).mono ?_); rintro e w6 ⟨rfl, h6⟩)
      | ((go_at_call 81; with_reducible refine (HTE.out.no _ _ _ (TW.alloc (by assumption) _)).mono ?_); rintro e w6 ⟨rfl, h6⟩))
  have H5 := Lib.hid h6
  clear h6 h0 hS
  have h0 := H5.out.drew
  have hS := h0.cells
  go_wp2_with fail
  go_region_held3 (fun W => W.cell? ⟨w.heap.size, 3, none⟩ = some (.int .i64 0))
    (first | exact hS.2.2.1 | exact (TW.cells (by assumption)).2.2.1 | exact (TW.cells (TW.alloc (by assumption) _)).2.2.1)
    (first
      | ((go_at_call 47; with_reducible refine (HTE.out.zero _ _ (by assumption)).mono ?_); rintro e w6 ⟨rfl, h6⟩)
      | ((go_at_call 81; with_reducible refine (HTE.out.no _ _ _ (TW.alloc (by assumption) _)).mono ?_); rintro e w6 ⟨rfl, h6⟩))
  have H6 := Lib.hid h6
  clear h6 h0 hS
  have hS := H6.out.cells
  have hc4 := hS.2.2.2.1
  go_wp2_with fail
  refine (HTE.out.no _ _ _ (H6.out.alloc _)).mono ?_
  rintro e w6 ⟨rfl, h6⟩
  have h0 : True := trivial
  have H7 := Lib.hid h6
  clear h6 h0 hS
  have h0 := H7.out.drew
  have hS := h0.cells
  go_wp2_with fail
  go_region_held3 (fun W => W.cell? ⟨w.heap.size, 1, none⟩ = some (.slice none 0 0))
    (first | exact hS.1 | exact (TW.cells (by assumption)).1 | exact (TW.cells (TW.alloc (by assumption) _)).1)
    (first
      | ((go_at_call 46; with_reducible refine (HTE.out.set _ _ (by assumption)).mono ?_); rintro e w6 ⟨⟨T, rfl⟩, h6⟩)
      | ((go_at_call 81; with_reducible refine (HTE.out.no _ _ _ (TW.alloc (by assumption) _)).mono ?_); rintro e w6 ⟨rfl, h6⟩))
  have H8 := Lib.hid h6
  clear h6 h0 hS
  have h0 := H8.out.drew
  have hS := h0.cells
  go_wp2_with fail
  go_region_held3 (fun W => W.cell? ⟨w.heap.size, 5, none⟩ = some (.slice none 0 0))
    (first | exact hS.2.2.2.2.1 | exact (TW.cells (by assumption)).2.2.2.2.1 | exact (TW.cells (TW.alloc (by assumption) _)).2.2.2.2.1)
    (first
      | ((go_at_call 82; with_reducible refine (HTE.out.keys _ _ (by assumption)).mono ?_); rintro e w6 ⟨⟨T, rfl⟩, h6⟩)
      | ((go_at_call 81; with_reducible refine (HTE.out.no _ _ _ (TW.alloc (by assumption) _)).mono ?_); rintro e w6 ⟨rfl, h6⟩))
  have H9 := Lib.hid h6
  clear h6 h0 hS
  have h0 := H9.out.drew
  have hS := h0.cells
  go_wp2_with fail
  go_region_held3 (fun W => W.cell? ⟨w.heap.size, 6, none⟩ = some (.int .i64 0) ∧ W.cell? ⟨w.heap.size, 7, none⟩ = some (.int .i64 0) ∧ W.cell? ⟨w.heap.size, 8, none⟩ = some (.int .i64 0) ∧ W.cell? ⟨w.heap.size, 9, none⟩ = some (.int .i64 0) ∧ W.cell? ⟨w.heap.size, 10, none⟩ = some (.int .i64 0) ∧ W.cell? ⟨w.heap.size, 11, none⟩ = some (.int .i64 0) ∧ W.cell? ⟨w.heap.size, 12, none⟩ = some (.int .i64 0))
    (first | exact hS.2.2.2.2.2 | exact (TW.cells (by assumption)).2.2.2.2.2 | exact (TW.cells (TW.alloc (by assumption) _)).2.2.2.2.2)
    (first
      | ((go_at_call 83; with_reducible refine (HTE.out.stats _ _ (by assumption)).mono ?_); rintro e w6 ⟨⟨T, rfl⟩, h6⟩)
      | ((go_at_call 81; with_reducible refine (HTE.out.no _ _ _ (TW.alloc (by assumption) _)).mono ?_); rintro e w6 ⟨rfl, h6⟩))
  obtain ⟨v, hv, hown, hf1, hf2⟩ := h6.row
  have x0 := hv.cell 0
  obtain ⟨VA, vc, rfl, _⟩ := own_more hown
  have HF := Lib.hid (And.intro hown h6.below)
  clear hv hown hf1 hf2 h6
  go_wp2_with fail
  go_ret
  exact ⟨_, _, rfl, HF.out.1, HF.out.2⟩
end Go.Proofs.YtifmgmiaeoiidaaGreatDoor
