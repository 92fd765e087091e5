/-
  The walk of the document's tale: at any steps what comes is what the plain law says. Fewer than 2^40 notes; no deeper than 51.
-/
import Derived.Test.YtopmcjpnfnfjiaaLendH
import Derived.Deep.AppendLies
import Derived.Deep.RegionLaw
namespace Go.Proofs.Ytopmcjpnfnfjiaa
open Go.RowKit Go.Colm Go.Lendp
set_option linter.unusedVariables false

/-- The tale at block tb: its notes (a row of its own, from block B on), the failure, the most. -/
def TaleAt (tb B : Nat) (v : Value) (ns : List Int) (code : Int) (ended : Bool) (most : Nat) (w : World) : Prop :=
  Whole w tb 36 #[v, .int .i64 code, .bool ended, .int .i64 (most : Int)] ∧ w.ownsRow B 3 1 v ns.length (intsV ns)
def tS (tb : Nat) (v : Value) : Nat → Prop := fun k => k = tb ∨ v.ownBlock = some k
def TCarry (tb B : Nat) (v : Value) (w : World) (ns' : List Int) (o : Option Int) (m' : Nat) (w' : World) : Prop :=
  ∃ v', TaleAt tb B v' ns' (o.getD 0) o.isSome m' w' ∧ Kept (tS tb v) w w' ∧ (v'.ownBlock = v.ownBlock ∨ ∃ k, w.heap.size ≤ k ∧ v'.ownBlock = some k)
theorem TaleAt.far {tb B : Nat} {v : Value} {ns : List Int} {c : Int} {e : Bool} {m : Nat} {w : World} (h : TaleAt tb B v ns c e m w) : v.ownBlock ≠ some tb :=
  Lib.ownBlock_ne h.2 h.1 (by decide)
theorem TaleAt.kept {S : Nat → Prop} {tb B : Nat} {v : Value} {ns : List Int} {c : Int} {e : Bool} {m : Nat} {w w' : World} (hk : Kept S w w') (h : TaleAt tb B v ns c e m w) (ht : ¬ S tb) (hs : ∀ k, v.ownBlock = some k → ¬ S k) : TaleAt tb B v ns c e m w' :=
  ⟨hk.whole h.1 ht, own_kept hk h.2 hs⟩
theorem TCarry.then {tb B : Nat} {v v1 : Value} {w w1 w2 : World} {ns2 : List Int} {o2 : Option Int} {m2 : Nat}
    (k1 : Kept (tS tb v) w w1) (o1 : v1.ownBlock = v.ownBlock ∨ ∃ k, w.heap.size ≤ k ∧ v1.ownBlock = some k) (h : TCarry tb B v1 w1 ns2 o2 m2 w2) : TCarry tb B v w ns2 o2 m2 w2 := by
  obtain ⟨v2, t2, k2, q2⟩ := h
  refine ⟨v2, t2, k1.on k2 ?_, ?_⟩
  · rintro k hk (h | h)
    · exact .inl h
    · rcases o1 with o | ⟨j, hj, o⟩
      · exact .inr (o ▸ h)
      · rw [o] at h
        cases h
        omega
  · rcases q2 with o | ⟨j, hj, o⟩
    · rw [o]
      exact o1
    · exact .inr ⟨j, Nat.le_trans k1.size hj, o⟩
theorem TCarry.same {tb B : Nat} {v : Value} {w w' : World} {ns : List Int} {o : Option Int} {m : Nat} (t : TaleAt tb B v ns (o.getD 0) o.isSome m w') (k : Kept (fun b => b = tb) w w') : TCarry tb B v w ns o m w' :=
  ⟨v, t, k.mono fun _ _ h => .inl h, .inl rfl⟩
theorem tale_put {tb B : Nat} {v : Value} {ns : List Int} {c c' : Int} {e e' : Bool} {m m' : Nat} {w w' : World} (h : TaleAt tb B v ns c e m w) (k : Kept (fun b => b = tb) w w') (hw : Whole w' tb 36 #[v, .int .i64 c', .bool e', .int .i64 (m' : Int)]) : TaleAt tb B v ns c' e' m' w' :=
  ⟨hw, own_kept k h.2 fun k hk e => h.far (by rw [hk, e])⟩
theorem tale_app {tb B : Nat} {v v' : Value} {ns : List Int} {c : Int} {e : Bool} {m : Nat} {w w3 : World} {o : Obj} {n : Int} (h : TaleAt tb B v ns c e m w)
    (hown3 : w3.ownsRow B 3 1 v' (ns.length + 1) (intsV ns ++ [.int .i64 n])) (hg3 : (w.alloc o).grownBy w3 v.ownBlock) (hat3 : v'.ownBlock = v.ownBlock ∨ v'.ownBlock = some (w.alloc o).heap.size) :
    Whole w3 tb 36 #[v, .int .i64 c, .bool e, .int .i64 (m : Int)] ∧ TaleAt tb B v' (ns ++ [n]) c e m (w3.setCell ⟨tb, 0, none⟩ v') ∧ Kept (tS tb v) w (w3.setCell ⟨tb, 0, none⟩ v') ∧ (v'.ownBlock = v.ownBlock ∨ ∃ k, w.heap.size ≤ k ∧ v'.ownBlock = some k) := by
  have ka : Kept (fun _ => False) w (w.alloc o) := (Kept.refl _ _).alloc _
  have ht3 : Whole w3 tb 36 #[v, .int .i64 c, .bool e, .int .i64 (m : Int)] := (Kept.grown hg3).whole (ka.whole h.1 id) h.far
  have hne : v'.ownBlock ≠ some tb := Lib.ownBlock_ne hown3 ht3 (by decide)
  have hk1 : Kept (tS tb v) w w3 := (ka.mono fun _ _ h => h.elim).trans ((Kept.grown hg3).mono fun k _ hk => .inr hk)
  refine ⟨ht3, ⟨ht3.put 0 v', ?_⟩, hk1.setCell (p := ⟨tb, 0, none⟩) (.inl (.inl rfl)) _, ?_⟩
  · rw [intsV_snoc, List.length_append]
    exact hown3.kept (row := some tb) ⟨rfl, rfl, rfl, by simp [World.setCell], fun k _ hk => Below.heap_setCell _ _ _ _ (fun e => hk (by simp [e]))⟩ (Or.inr hne)
  · rcases hat3 with h | h
    · exact .inl h
    · exact .inr ⟨_, by simp, h⟩

theorem tale_four {tb B : Nat} {v1 v2 v' : Value} {ns2 : List Int} {cf : Int} {m : Nat} {wr w2 w3 : World} (k2 : Kept (tS tb v1) wr w2) (o2 : v2.ownBlock = v1.ownBlock ∨ ∃ k, wr.heap.size ≤ k ∧ v2.ownBlock = some k)
    (h : TaleAt tb B v' ns2 cf true m w3 ∧ Kept (tS tb v2) w2.drew w3 ∧ (v'.ownBlock = v2.ownBlock ∨ ∃ k, w2.drew.heap.size ≤ k ∧ v'.ownBlock = some k)) :
    TCarry tb B v1 wr ns2 none m ((w3.setCell ⟨tb, 2, none⟩ (.bool false)).setCell ⟨tb, 1, none⟩ (.int .i64 0)) := by
  obtain ⟨t3, k3, o3⟩ := h
  have kx : Kept (fun b => b = tb) w3 ((w3.setCell ⟨tb, 2, none⟩ (.bool false)).setCell ⟨tb, 1, none⟩ (.int .i64 0)) := ((Kept.refl (fun b => b = tb) w3).setCell (p := ⟨tb, 2, none⟩) (.inl rfl) _).setCell (p := ⟨tb, 1, none⟩) (.inl rfl) _
  have tx : TaleAt tb B v' ns2 0 false m ((w3.setCell ⟨tb, 2, none⟩ (.bool false)).setCell ⟨tb, 1, none⟩ (.int .i64 0)) := tale_put t3 kx ((t3.1.put 2 _).put 1 _)
  have k2' : Kept (tS tb v1) wr w2.drew := k2.drew
  exact TCarry.then k2' o2 (TCarry.then k3 o3 (TCarry.same tx kx))

/-- What the tale's loop holds. -/
def TLoop (tb B : Nat) (v : Value) (ns : List Int) (d m deep : Nat) (l : List Stp) (w : World) (k : Nat) (wr : World) : Prop :=
  ∃ acc p, (Sofar false d deep l k acc p ∧ TCarry tb B v w (ns ++ acc) none (max m p) wr) ∨ ∃ c, doL false d deep l = (acc, p, some c) ∧ TCarry tb B v w (ns ++ acc) (some c) (max m p) wr
theorem TLoop.start {tb B : Nat} {v : Value} {ns : List Int} {d m deep : Nat} {l : List Stp} {w : World} (h : TaleAt tb B v ns 0 false m w) : TLoop tb B v ns d m deep l w 0 w :=
  ⟨[], 0, .inl ⟨Sofar.start _ _ _ _, v, by
    rw [List.append_nil, Nat.max_zero]
    exact h, Kept.refl _ _, .inl rfl⟩⟩
theorem TLoop.step {tb B : Nat} {v v1 : Value} {ns : List Int} {d m deep : Nat} {l : List Stp} {w w1 w2 : World} {k : Nat} {acc : List Int} {p : Nat} (hs : Sofar false d deep l k acc p) (h50 : ¬ 50 < deep) (hk : k < l.length)
    (k1 : Kept (tS tb v) w w1) (o1 : v1.ownBlock = v.ownBlock ∨ ∃ k, w.heap.size ≤ k ∧ v1.ownBlock = some k)
    {r : Came} (hr : doS false d deep l[k] = r) (h : TCarry tb B v1 w1 ((ns ++ acc) ++ r.1) r.2.2 (max (max m p) r.2.1) w2) : TLoop tb B v ns d m deep l w (k + 1) w2 := by
  have h2 := TCarry.then k1 o1 h
  rw [List.append_assoc, Nat.max_assoc] at h2
  rcases eo : r.2.2 with _ | c
  · have := hs.on h50 hk (by rw [hr]; exact eo)
    rw [hr] at this
    rw [eo] at h2
    exact ⟨_, _, .inl ⟨this, h2⟩⟩
  · have := hs.fail h50 hk (by rw [hr]; exact eo)
    rw [hr] at this
    rw [eo] at h2
    exact ⟨_, _, .inr ⟨c, this, h2⟩⟩
theorem TLoop.done {tb B : Nat} {v : Value} {ns : List Int} {d m deep : Nat} {l : List Stp} {w : World} {k : Nat} {wr : World} {acc : List Int} {p : Nat} (hk : l.length ≤ k) (hs : Sofar false d deep l k acc p) (h : TCarry tb B v w (ns ++ acc) none (max m p) wr) :
    TCarry tb B v w (ns ++ (doL false d deep l).1) (doL false d deep l).2.2 (max m (doL false d deep l).2.1) wr := by
  rw [hs.done hk]
  exact h

/-- The tale is told rightly at these steps, whatever the world. -/
def TaleOK (N : Nat → Prop) (tb B : Nat) (l : List Stp) : Prop :=
  ∀ (v : Value) (ns : List Int) (d m : Nat) (A : Option Addr) (cp deep : Nat) (w : World), TaleAt tb B v ns 0 false m w → StpsAt N w A 0 l → ns.length + cntL l < 1099511627776 → d ≤ deep → deep ≤ 51 →
    Calls Try.prog 13 #[.pointer (some ⟨tb, 0, none⟩), .slice A l.length cp, .int .i64 (d : Int), .int .i64 (deep : Int)] w fun e w' =>
      e = .returned (.tuple #[]) ∧ TCarry tb B v w (ns ++ (doL false d deep l).1) (doL false d deep l).2.2 (max m (doL false d deep l).2.1) w'

set_option maxRecDepth 100000 in
set_option maxHeartbeats 4000000 in
theorem tale_step {N : Nat → Prop} {tb B : Nat} {l : List Stp} (H : ∀ k (hk : k < l.length) kk c sub, l[k] = .mk kk c sub → TaleOK N tb B sub) (hBt : B ≤ tb) (hN : ∀ k, N k → k < B) : TaleOK N tb B l := by
  intro v ns d m A cp deep w ht hs hc hd hdeep
  by_cases h50 : 50 < deep
  · rw [doL_deep _ _ _ _ h50]
    have hC : TCarry tb B v w (ns ++ ([] : List Int)) none (max m 0) w := by
      rw [List.append_nil, Nat.max_zero]
      exact ⟨v, ht, Kept.refl _ _, .inl rfl⟩
    have HC := Lib.hid hC
    clear hC ht hs hc H
    go_enter Try.func13, Try.ntmps13
    go_wp2_with fail
    refine bodyPost_ret (results_none rfl _ _ _) rfl ?_
    exact ⟨rfl, HC.out⟩
  · have hlen : l.length < 1099511627776 := by
      have := cntL_length l
      omega
    have hNS : ∀ k, N k → ¬ tS tb v k := by
      rintro k hk (h | h)
      · have := hN k hk
        omega
      · have := hN k hk
        have := own_from ht.2 h
        omega
    obtain ⟨i0, hi, hz0, hz1, hz2⟩ := info_parts int_info
    have HL0 := Lib.hid (TLoop.start (d := d) (deep := deep) (l := l) ht)
    have hno := Lib.hid hNS
    have HH := Lib.hid H
    have HS := Lib.hid hs
    have hBw : B ≤ w.heap.size := by
      have := ht.1.lt
      omega
    clear H hs ht hNS
    go_enter Try.func13, Try.ntmps13
    go_wp2_with fail
    go_loopw [8] (fun i wr => ∃ k : Nat, k ≤ l.length ∧ i = .int .i64 k ∧ Hid (TLoop tb B v ns d m deep l w k wr)) (fun i _ => l.length - (intOf i).toNat)
    case atStart => exact ⟨0, Nat.zero_le _, rfl, HL0⟩
    case round =>
      obtain ⟨k, hk, rfl, hcar⟩ := hrel
      obtain ⟨acc, p, ⟨hso, v1, t1, k1, o1⟩ | ⟨c, hdn, v1, t1, k1, o1⟩⟩ := hcar.out
      · have q2 : wr.cell? ⟨tb, 2, none⟩ = some (.bool false) := t1.1.cell 2
        by_cases hlt : k < l.length
        · have hsw : StpsAt N wr A 0 l := HS.out.kept k1 hno.out
          obtain ⟨b, off, rfl, hbN, hst⟩ := hsw.get l 0 k hlt
          rw [Nat.zero_add] at hst
          rcases hek : l[k] with ⟨kk, c, sub⟩
          rw [hek] at hst
          obtain ⟨s0, s1, A', cp', s2, hsub⟩ := stpAt_mk.1 hst
          have hok := HH.out k hlt kk c sub hek
          have hdc : cntL (l.drop k) = cntS l[k] + cntL (l.drop (k + 1)) := by rw [List.drop_eq_getElem_cons hlt, cntL_cons]
          have hc1 : (ns ++ acc).length + cntL sub + 1 < 1099511627776 := by
            rw [List.length_append]
            rw [hek, cntS] at hdc
            have := hso.2
            omega
          have q0 : wr.cell? ⟨tb, 0, none⟩ = some v1 := t1.1.cell 0
          have q1 : wr.cell? ⟨tb, 1, none⟩ = some (.int .i64 0) := t1.1.cell 1
          have q3 : wr.cell? ⟨tb, 3, none⟩ = some (.int .i64 ((max m p : Nat) : Int)) := t1.1.cell 3
          have f1 := t1.1.frozen 1
          have f2 := t1.1.frozen 2
          have f3 := t1.1.frozen 3
          have hstep : ∀ (r : Came) (w2 : World), doS false d deep l[k] = r → TCarry tb B v1 wr ((ns ++ acc) ++ r.1) r.2.2 (max (max m p) r.2.1) w2 → TLoop tb B v ns d m deep l w (k + 1) w2 := fun r w2 hr h => TLoop.step hso h50 hlt k1 o1 hr h
          have hbw1 : B ≤ wr.heap.size := by
            have := t1.1.lt
            omega
          have hcall : deep ≤ 50 → ∀ x : Int, x = ((max (max m p) (d + 1) : Nat) : Int) → Calls Try.prog 13 #[.pointer (some ⟨tb, 0, none⟩), .slice A' sub.length cp', .int .i64 ((d + 1 : Nat) : Int), .int .i64 ((deep + 1 : Nat) : Int)] (wr.setCell ⟨tb, 3, none⟩ (.int .i64 x)) fun e w' =>
              e = .returned (.tuple #[]) ∧ TCarry tb B v1 wr ((ns ++ acc) ++ (doL false (d + 1) (deep + 1) sub).1) (doL false (d + 1) (deep + 1) sub).2.2 (max (max m p) (max (d + 1) (doL false (d + 1) (deep + 1) sub).2.1)) w' := by
            intro hd50 x hx
            have kx : Kept (fun b => b = tb) wr (wr.setCell ⟨tb, 3, none⟩ (.int .i64 x)) := (Kept.refl (fun b => b = tb) wr).setCell (p := ⟨tb, 3, none⟩) (.inl rfl) _
            have tx : TaleAt tb B v1 (ns ++ acc) 0 false (max (max m p) (d + 1)) (wr.setCell ⟨tb, 3, none⟩ (.int .i64 x)) := tale_put t1 kx (by
              rw [hx]
              exact t1.1.put 3 _)
            refine (hok v1 (ns ++ acc) (d + 1) _ A' cp' (deep + 1) _ tx (hsub.kept kx fun j hj e => by
              have := hN j hj
              omega) (by omega) (by omega) (by omega)).mono ?_
            rintro e w' ⟨rfl, h⟩
            rw [Nat.max_assoc] at h
            exact ⟨rfl, TCarry.then (kx.mono fun _ _ h => .inl h) (.inl rfl) h⟩
          have HCALL := Lib.hid hcall
          have HSTEP := Lib.hid hstep
          have HEK := Lib.hid hek
          have HSUB := Lib.hid hsub
          have HOK := Lib.hid hok
          have HT1 := Lib.hid t1
          have hbb := hN b hbN
          clear hstep hcall hek hsub hok hst hsw hcar hdc hso t1 k1 o1
          by_cases z1 : kk = 1
          · subst z1
            have hr : doS false d deep l[k] = ([(d : Int)], 0, none) := by
              rw [HEK.out, doS_1]
              rfl
            have HR := Lib.hid hr
            clear hr
            go_wp2_with (at_builtin; refine wpList_append_own_at _ rfl _ _ 28 rfl B 3 i0 (.int .i64 0) 1 8 Try.underlying28 hi hz0 hz1 hz2 rfl (by decide) v1 (ns ++ acc).length (intsV (ns ++ acc)) rfl (HT1.out.2.alloc _) ⟨wr.heap.size, 0, none⟩ 1 1 [.int .i64 (d : Int)] rfl rfl (cell_one_new _ _ _) (fun x hx => by simp at hx; subst hx; rfl) (by unfold maxLen; omega) (by omega) (by simp; omega) ?_; intro v' w3 hown3 hg3 _ hat3; have happ := tale_app HT1.out hown3 hg3 hat3; have hc3 : w3.cell? ⟨tb, 0, none⟩ = some v1 := happ.1.cell 0; have hf3 := happ.1.frozen 0; have hx3 := own_row hown3; obtain ⟨A3, cap3, hv3, _⟩ := hx3; have HV3 := Lib.hid hv3; have HAPP := Lib.hid happ; clear happ hown3 hg3 hat3; rw [hv3]; clear hv3)
            go_roundw
            case rel => exact ⟨k + 1, by omega, by go_num, Lib.hid (HSTEP.out _ _ HR.out (by
              rw [show Value.slice A3 (ns.length + acc.length + 1) cap3 = v' by rw [HV3.out, List.length_append], Nat.max_zero]
              exact ⟨v', HAPP.out.2.1, HAPP.out.2.2.1, HAPP.out.2.2.2⟩))⟩
            case measure => simp [intOf]; omega
          · by_cases z2 : kk = 2
            · subst z2
              go_wp2_with fail
              all_goals
                refine (HCALL.out (by omega) _ (by omega)).mono ?_
                rintro e w2 ⟨rfl, hcr⟩
                have HC2 := Lib.hid (HSTEP.out _ _ (by rw [HEK.out, doS_2]) hcr)
                clear hcr
                go_wp2_with fail
                go_roundw
                case rel => exact ⟨k + 1, by omega, by go_num, HC2⟩
                case measure => simp [intOf]; omega
            · by_cases z3 : kk = 3
              · subst z3
                go_wp2_with fail
                go_roundw
                case rel => exact ⟨k + 1, by omega, by go_num, Lib.hid (HSTEP.out _ _ (by rw [HEK.out, doS_3]) (by
                  rw [List.append_nil, Nat.max_zero]
                  have kx : Kept (fun b => b = tb) wr ((wr.setCell ⟨tb, 2, none⟩ (.bool true)).setCell ⟨tb, 1, none⟩ (.int .i64 c)) := ((Kept.refl (fun b => b = tb) wr).setCell (p := ⟨tb, 2, none⟩) (.inl rfl) _).setCell (p := ⟨tb, 1, none⟩) (.inl rfl) _
                  exact TCarry.same (tale_put HT1.out kx ((HT1.out.1.put 2 _).put 1 _)) kx))⟩
                case measure => simp [intOf]; omega
              · by_cases z4 : kk = 4
                · subst z4
                  go_wp2_with fail
                  all_goals
                    refine (HCALL.out (by omega) _ (by omega)).mono ?_
                    rintro e w2 ⟨rfl, hcr⟩
                    rcases eo : (doL false (d + 1) (deep + 1) sub).2.2 with _ | cf
                    · have HE2 := Lib.hid eo
                      rw [eo] at hcr
                      have HC2 := Lib.hid hcr
                      have p2 : w2.cell? ⟨tb, 2, none⟩ = some (.bool false) := by
                        obtain ⟨v2, t2, _⟩ := hcr
                        exact t2.1.cell 2
                      clear hcr eo
                      go_wp2_with fail
                      go_roundw
                      case rel => exact ⟨k + 1, by omega, by go_num, Lib.hid (HSTEP.out _ _ (by rw [HEK.out, doS_4, HE2.out]) (by
                        rw [Option.toList_none, List.append_nil]
                        exact HC2.out))⟩
                      case measure => simp [intOf]; omega
                    · have HE2 := Lib.hid eo
                      have hl2 := doL_len false (d + 1) (deep + 1) sub
                      rw [eo] at hcr hl2
                      obtain ⟨nsb, hnsb⟩ : ∃ x, x = ns ++ acc ++ (doL false (d + 1) (deep + 1) sub).1 := ⟨_, rfl⟩
                      have hnl : nsb.length + 1 < 1099511627776 := by
                        rw [hnsb, List.length_append]
                        simp only [Option.toList_some, List.length_cons, List.length_nil] at hl2
                        omega
                      rw [← hnsb] at hcr
                      obtain ⟨v2, t2, k2, o2⟩ := hcr
                      have p0 : w2.cell? ⟨tb, 0, none⟩ = some v2 := t2.1.cell 0
                      have p1 : w2.cell? ⟨tb, 1, none⟩ = some (.int .i64 cf) := t2.1.cell 1
                      have p2 : w2.cell? ⟨tb, 2, none⟩ = some (.bool true) := t2.1.cell 2
                      have kab : Kept (fun _ => False) w2 (w2.alloc (.cells #[.int .i64 cf] 3)) := (Kept.refl _ _).alloc _
                      have p0b := kab.cell p0 id
                      have p1b := kab.cell p1 id
                      have kal : Kept (fun _ => False) w2 (w2.drew.alloc (.cells #[.int .i64 cf] 3)) := (Kept.drew (Kept.refl _ _)).alloc _
                      have p0a := kal.cell p0 id
                      have p1a := kal.cell p1 id
                      have hb2 : B ≤ (w2.drew.alloc (.cells #[.int .i64 cf] 3)).heap.size := by
                        have := t2.1.lt
                        have h2 : w2.heap.size ≤ (w2.drew.alloc (.cells #[.int .i64 cf] 3)).heap.size := kal.size
                        omega
                      have HT2D : Hid (TaleAt tb B v2 nsb cf true (max (max m p) (max (d + 1) (doL false (d + 1) (deep + 1) sub).2.1)) w2.drew) := Lib.hid t2
                      have HK2 := Lib.hid k2
                      have HO2 := Lib.hid o2
                      have HNSB := Lib.hid hnsb
                      clear eo t2 k2 o2 hnsb hl2 kal kab
                      go_wp2_with fail
                      go_region_law (
                            (refine step_append_lies _ rfl _ _ _ rfl B 3 i0 _ 1 8 Try.underlying28 hi hz0 hz1 hz2 rfl (by decide) v2 nsb.length (intsV nsb) rfl (HT2D.out.2.alloc _) ⟨_, 0, none⟩ 1 1 [.int .i64 cf] rfl rfl (cell_one_new _ _ _) (fun x hx => by simp at hx; subst hx; rfl) (by decide) (by unfold maxLen; omega) (by omega) hb2 _ rfl ?_
                             intro g cap w3 hown3 hg3 hat3 hlt3
                             have happ := tale_app HT2D.out hown3 hg3 (hat3.elim (fun h => Or.inl (by rw [h]; rfl)) (fun h => Or.inr (by rw [h]; rfl)))
                             have z0 : w3.cell? ⟨tb, 0, none⟩ = some v2 := happ.1.cell 0
                             have z0f := happ.1.frozen 0
                             have z1 : w3.cell? ⟨tb, 1, none⟩ = some (.int .i64 cf) := happ.1.cell 1
                             have y1 : (w3.setCell ⟨tb, 0, none⟩ (.slice (some ⟨g, 0, none⟩) (nsb.length + 1) cap)).cell? ⟨tb, 1, none⟩ = some (.int .i64 cf) := happ.2.1.1.cell 1
                             have y2 : (w3.setCell ⟨tb, 0, none⟩ (.slice (some ⟨g, 0, none⟩) (nsb.length + 1) cap)).cell? ⟨tb, 2, none⟩ = some (.bool true) := happ.2.1.1.cell 2
                             have y1f := happ.2.1.1.frozen 1
                             have y2f := happ.2.1.1.frozen 2
                             have HAPP := Lib.hid happ
                             clear happ hown3 hg3 hat3))
                      all_goals
                        go_wp2_with fail
                        go_roundw
                        case rel => exact ⟨k + 1, by omega, by go_num, Lib.hid (HSTEP.out _ _ (by rw [HEK.out, doS_4, HE2.out]) (by
                          simp only [Option.toList_some]
                          rw [← List.append_assoc, ← HNSB.out]
                          exact tale_four HK2.out HO2.out HAPP.out.2))⟩
                        case measure => simp [intOf]; omega
                · go_wp2_with fail
                  go_roundw
                  case rel => exact ⟨k + 1, by omega, by go_num, Lib.hid (HSTEP.out _ _ (by rw [HEK.out, doS_0 z1 z2 z3 z4]) (by
                    rw [List.append_nil, Nat.max_zero]
                    exact ⟨v1, HT1.out, Kept.refl _ _, .inl rfl⟩))⟩
                  case measure => simp [intOf]; omega
        · have HF := Lib.hid (TLoop.done (by omega) hso ⟨v1, t1, k1, o1⟩)
          clear hso t1 k1 o1 hcar
          go_wp2_with fail
          go_end0
          exact ⟨rfl, HF.out⟩
      · have q2 : wr.cell? ⟨tb, 2, none⟩ = some (.bool true) := t1.1.cell 2
        have HF : Hid (TCarry tb B v w (ns ++ (doL false d deep l).1) (doL false d deep l).2.2 (max m (doL false d deep l).2.1) wr) := Lib.hid (by
          rw [hdn]
          exact ⟨v1, t1, k1, o1⟩)
        clear hdn t1 k1 o1 hcar
        by_cases hlt : k < l.length
        all_goals
          go_wp2_with fail
          go_end0
          exact ⟨rfl, HF.out⟩

theorem tale_any {N : Nat → Prop} {tb B : Nat} (hBt : B ≤ tb) (hN : ∀ k, N k → k < B) : ∀ (n : Nat) (l : List Stp), cntL l < n → TaleOK N tb B l
  | 0, _, h => absurd h (by omega)
  | n + 1, l, h => tale_step (fun k hk kk c sub e => tale_any hBt hN n sub (by
      have := cntL_get l k hk
      rw [e, cntS] at this
      omega)) hBt hN

end Go.Proofs.Ytopmcjpnfnfjiaa
