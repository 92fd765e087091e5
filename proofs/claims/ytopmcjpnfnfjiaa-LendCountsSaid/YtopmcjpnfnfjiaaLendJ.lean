/-
  The walk of layer lend's do: at any steps what comes is what the plain law says. Fewer than 2^40 notes; no deeper than 51.
-/
import Derived.Test.YtopmcjpnfnfjiaaLendI
import Derived.Deep.RegionHeld3
namespace Go.Proofs.Ytopmcjpnfnfjiaa
open Go.RowKit Go.Colm Go.Lendp
set_option linter.unusedVariables false

set_option maxHeartbeats 4000000 in
theorem do_step {N : Nat → Prop} {tb B : Nat} {bp : Option Nat} {l : List Stp} (H : ∀ k (hk : k < l.length) kk c sub, l[k] = .mk kk c sub → DoOK N tb B bp sub) (hBt : B ≤ tb) (hbB : ∀ b, bp = some b → b < B) (hN : ∀ k, N k → k < B ∧ bp ≠ some k) : DoOK N tb B bp l := by
  intro v ns d m A cp deep w ht hb hs hc hd hdeep
  by_cases h50 : 50 < deep
  · rw [doL_deep _ _ _ _ h50]
    have hC : ∀ w1, Kept (fun _ => False) w w1 → Carry tb B bp v ns d m w [] 0 w1 := fun w1 hk =>
      Carry.ahead hk (Carry.start (ht.kept hk id fun _ _ => id) (hb.kept hk fun _ _ => id))
    have HC := Lib.hid hC
    clear hC ht hb hs hc H hN hbB
    go_enter Try.func24, Try.ntmps24
    go_wp2_with fail
    go_end0
    exact ⟨rfl, HC.out _ (((Kept.refl _ w).alloc _).alloc _)⟩
  · have hx : (50 : Int) < (deep : Int) ↔ False := by simp; omega
    have hlen : l.length < 1099511627776 := by
      have := cntL_length l
      omega
    have hno : ¬ doS_ tb bp v w.heap.size := by
      rintro (h | h | h)
      · have := ht.1.lt
        omega
      · have := (hb _ h).lt
        omega
      · have := own_at ht.2 h
        omega
    have hno1 : ¬ doS_ tb bp v (w.heap.size + 1) := by
      rintro (h | h | h)
      · have := ht.1.lt
        omega
      · have := (hb _ h).lt
        omega
      · have := own_at ht.2 h
        omega
    have hNS : ∀ k, N k → ¬ doS_ tb bp v k := by
      rintro k hk (h | h | h)
      · have := (hN k hk).1
        omega
      · exact (hN k hk).2 h
      · have := (hN k hk).1
        have := own_from ht.2 h
        omega
    have hno := Lib.hid hno
    have hno1 := Lib.hid hno1
    have hNS := Lib.hid hNS
    have HH := Lib.hid H
    have HS := Lib.hid hs
    have HT := Lib.hid ht
    have HB := Lib.hid hb
    clear H hs ht hb
    go_enter Try.func24, Try.ntmps24
    go_wp2_with fail
    have hW2 : ∃ W2, W2 = (w.alloc (.cells #[.pointer (some ⟨tb, 0, none⟩)] 49)).alloc (.cells #[.int .i64 (deep : Int)] 3) := ⟨_, rfl⟩
    obtain ⟨W2, hW2⟩ := hW2
    have hk2 : Kept (fun _ => False) w W2 := hW2 ▸ ((Kept.refl _ w).alloc _).alloc _
    have c32 : W2.cell? ⟨w.heap.size, 0, none⟩ = some (.pointer (some ⟨tb, 0, none⟩)) := by
      rw [hW2]
      exact Kept.cell (S := fun _ => False) ((Kept.refl _ _).alloc _) ((Whole.new w 49 #[.pointer (some ⟨tb, 0, none⟩)]).cell 0) id
    have c52 : W2.cell? ⟨w.heap.size + 1, 0, none⟩ = some (.int .i64 (deep : Int)) := by
      have h := (Whole.new (w.alloc (.cells #[.pointer (some ⟨tb, 0, none⟩)] 49)) 3 #[.int .i64 (deep : Int)]).cell 0
      rw [World.size_alloc] at h
      rw [hW2]
      exact h
    have hs2 : W2.heap.size = w.heap.size + 2 := by rw [hW2]; simp
    rw [← hW2]
    clear hW2
    have HK2 := Lib.hid hk2
    have C32 := Lib.hid c32
    have C52 := Lib.hid c52
    have hC0 : Carry tb B bp v ns d m W2 [] 0 W2 := Carry.start (HT.out.kept hk2 id fun _ _ => id) (HB.out.kept hk2 fun _ _ => id)
    have HC0 := Lib.hid hC0
    clear hC0 c32 c52 hk2
    go_loopw [14] (fun i wr => ∃ k : Nat, k ≤ l.length ∧ i = .int .i64 k ∧ Hid (∃ acc p, Sofar bp.isNone d deep l k acc p ∧ Carry tb B bp v ns d m W2 acc p wr)) (fun i _ => l.length - (intOf i).toNat)
    case atStart => exact ⟨0, Nat.zero_le _, rfl, Lib.hid ⟨[], 0, Sofar.start _ _ _ _, HC0.out⟩⟩
    case round =>
      obtain ⟨k, hk, rfl, hcar⟩ := hrel
      by_cases hlt : k < l.length
      · obtain ⟨acc, p, hso, v1, t1, b1, k1, o1⟩ := hcar.out
        have c3 : wr.cell? ⟨w.heap.size, 0, none⟩ = some (.pointer (some ⟨tb, 0, none⟩)) := k1.cell C32.out hno.out
        have c5 : wr.cell? ⟨w.heap.size + 1, 0, none⟩ = some (.int .i64 (deep : Int)) := k1.cell C52.out hno1.out
        have hsw : StpsAt N wr A 0 l := (HS.out.kept HK2.out fun _ _ => id).kept k1 hNS.out
        obtain ⟨b, off, rfl, hbN, hst⟩ := hsw.get l 0 k hlt
        rw [Nat.zero_add] at hst
        rcases hek : l[k] with ⟨kk, c, sub⟩
        rw [hek] at hst
        obtain ⟨s0, s1, A', cp', s2, hsub⟩ := stpAt_mk.1 hst
        have hok := HH.out k hlt kk c sub hek
        have hsc := cntL_get l k hlt
        rw [hek, cntS] at hsc
        have hac : acc.length + cntL (l.drop k) ≤ cntL l := hso.2
        have hdc : cntL (l.drop k) = cntS l[k] + cntL (l.drop (k + 1)) := by rw [List.drop_eq_getElem_cons hlt, cntL_cons]
        have HSO := Lib.hid hso
        have HEK := Lib.hid hek
        have HSUB := Lib.hid hsub
        have HOK := Lib.hid hok
        have HT1 := Lib.hid t1
        have HB1 := Lib.hid b1
        have HK1 := Lib.hid k1
        have HO1 := Lib.hid o1
        have kst : Kept (fun _ => False) wr (wr.alloc (.cells #[.int .i64 kk, .int .i64 c, .slice A' sub.length cp'] 42)) := (Kept.refl _ _).alloc _
        have cs3 := kst.cell c3 id
        have cs5 := kst.cell c5 id
        have cst : (wr.alloc (.cells #[.int .i64 kk, .int .i64 c, .slice A' sub.length cp'] 42)).cell? ⟨tb, 0, none⟩ = some (bptr bp) := kst.cell (t1.1.cell 0) id
        have cs7 : (wr.alloc (.cells #[.int .i64 kk, .int .i64 c, .slice A' sub.length cp'] 42)).cell? ⟨wr.heap.size, 2, none⟩ = some (.slice A' sub.length cp') := (Whole.new wr 42 #[.int .i64 kk, .int .i64 c, .slice A' sub.length cp']).cell 2
        have hts := t1.kept kst id fun _ _ => id
        have hbs := b1.kept kst fun _ _ => id
        have hss := hsub.kept kst fun _ _ => id
        have hc1 : (ns ++ acc).length + cntL sub + 1 < 1099511627776 := by
          rw [List.length_append]
          rw [hek, cntS] at hdc
          have := hso.2
          omega
        have HTS := Lib.hid hts
        have HBS := Lib.hid hbs
        have HSS := Lib.hid hss
        have HKST := Lib.hid kst
        have hrest : ∀ (w3 : World) (a2 : List Int) (p2 : Nat), Carry tb B bp v1 (ns ++ acc) d (max m p) (wr.alloc (.cells #[.int .i64 kk, .int .i64 c, .slice A' sub.length cp'] 42)) a2 p2 w3 → Carry tb B bp v ns d m W2 (acc ++ a2) (max p p2) w3 := fun w3 a2 p2 h => Carry.more k1 o1 (Carry.ahead kst h)
        have HREST := Lib.hid hrest
        have hnx : ∀ W a2 p2, Carry tb B bp v1 (ns ++ acc) d (max m p) (wr.alloc (.cells #[.int .i64 kk, .int .i64 c, .slice A' sub.length cp'] 42)) a2 p2 W → W.cell? ⟨w.heap.size, 0, none⟩ = some (.pointer (some ⟨tb, 0, none⟩)) ∧ W.cell? ⟨tb, 0, none⟩ = some (bptr bp) := by
          rintro W a2 p2 ⟨v2, t2, _, k2, _⟩
          refine ⟨k2.cell cs3 ?_, t2.1.cell 0⟩
          rintro (h | h | h)
          · exact hno.out (.inl h)
          · exact hno.out (.inr (.inl h))
          · rcases o1 with o | ⟨j, hj, o⟩
            · exact hno.out (.inr (.inr (o ▸ h)))
            · rw [o] at h
              have : j = w.heap.size := by simpa using h
              omega
        have HNX := Lib.hid hnx
        clear hso hek hsub hok t1 b1 k1 o1 hst hsw hcar hdc kst hts hbs hss hrest hnx
        by_cases k1 : kk = 1
        · subst k1
          obtain ⟨dn, hdn⟩ : ∃ dn : Int, dn = (if bp.isNone then 0 else (d : Int)) := ⟨_, rfl⟩
          have HDN := Lib.hid hdn
          have hdep : ∀ W, Book bp W d (max m p) → Calls Try.prog 16 #[bptr bp] W fun e w' => e = .returned (.int .i64 dn) ∧ w' = W := fun W h => by
            rw [hdn]
            exact depth_any bp d _ W h
          have HDEP := Lib.hid hdep
          clear hdn hdep
          have HTD : Hid (Teller tb B bp v1 (ns ++ acc) (wr.alloc (.cells #[.int .i64 1, .int .i64 c, .slice A' sub.length cp'] 42)).drew) := HTS
          have HBD : Hid (Book bp (wr.alloc (.cells #[.int .i64 1, .int .i64 c, .slice A' sub.length cp'] 42)).drew d (max m p)) := HBS
          have hnx : ∀ W, Carry tb B bp v1 (ns ++ acc) d (max m p) (wr.alloc (.cells #[.int .i64 1, .int .i64 c, .slice A' sub.length cp'] 42)).drew [dn] 0 W → W.cell? ⟨w.heap.size, 0, none⟩ = some (.pointer (some ⟨tb, 0, none⟩)) ∧ W.cell? ⟨tb, 0, none⟩ = some (bptr bp) := fun W h =>
            HNX.out W _ _ (Carry.ahead (Kept.drew (Kept.refl _ _)) h)
          go_wp2_with fail
          go_region_held3 (fun W => W.cell? ⟨w.heap.size, 0, none⟩ = some (.pointer (some ⟨tb, 0, none⟩)) ∧ W.cell? ⟨tb, 0, none⟩ = some (bptr bp))
            (first | exact ⟨cs3, cst⟩ | exact hnx _ (by assumption))
            (first
              | ((go_at_call 16; refine (HDEP.out _ HBD.out).mono ?_); rintro e w2 ⟨rfl, rfl⟩)
              | ((go_at_call 26; refine (note_carry tb B bp v1 (ns ++ acc) _ d (max m p) _ HTD.out HBD.out hBt hbB (by omega)).mono ?_); rintro e w2 ⟨rfl, hcr⟩))
          have HC2 := Lib.hid (HREST.out _ _ _ (Carry.ahead (Kept.drew (Kept.refl _ _)) hcr))
          clear hcr
          go_wp2_with fail
          go_roundw
          case rel => exact ⟨k + 1, by omega, by go_num, Lib.hid ⟨_, _, HSO.out.on h50 hlt (by rw [HEK.out, doS_1]), by
            rw [HEK.out, doS_1, ← HDN.out]
            exact HC2.out⟩⟩
          case measure => simp [intOf]; omega
        · by_cases k2 : kk = 2
          · subst k2
            go_wp2_with fail
            refine (within_carry HOK.out hBt hbB hN v1 (ns ++ acc) d (max m p) A' cp' deep _ HTS.out HBS.out HSS.out (by omega) hd (by omega)).mono ?_
            rintro e w2 ⟨rfl, hcr⟩
            rcases eo : (doL bp.isNone (d + 1) (deep + 1) sub).2.2 with _ | cf
            · have HC2 := Lib.hid (HREST.out _ _ _ hcr)
              have HE2 := Lib.hid eo
              clear hcr eo
              unfold endOf
              go_wp2_with fail
              go_roundw
              case rel => exact ⟨k + 1, by omega, by go_num, Lib.hid ⟨_, _, HSO.out.on h50 hlt (by rw [HEK.out, doS_2]; exact HE2.out), by
                rw [HEK.out, doS_2]
                exact HC2.out⟩⟩
              case measure => simp [intOf]; omega
            · have HC2 := Lib.hid (HREST.out _ _ _ hcr)
              have HE2 := Lib.hid eo
              clear hcr eo
              unfold endOf
              go_wp2_with fail
              have hfl := HSO.out.fail h50 hlt (by rw [HEK.out, doS_2]; exact HE2.out)
              rw [HEK.out, doS_2] at hfl
              rw [hfl]
              exact ⟨rfl, rfl, HC2.out.ahead HK2.out⟩
          · by_cases k3 : kk = 3
            · subst k3
              go_wp2_with fail
              have hfl := HSO.out.fail h50 hlt (by rw [HEK.out, doS_3])
              rw [HEK.out, doS_3] at hfl
              rw [hfl]
              exact ⟨rfl, rfl, (HREST.out _ _ _ (Carry.start HTS.out HBS.out)).ahead HK2.out⟩
            · by_cases k4 : kk = 4
              · subst k4
                have hkc := kept_carry HOK.out hBt hbB hN v1 (ns ++ acc) d (max m p) A' cp' deep w.heap.size wr.heap.size (w.heap.size + 1) _ HTS.out HBS.out HSS.out (by omega) hd (by omega) cs3 cs7 cs5
                rcases eo : (doL bp.isNone (d + 1) (deep + 1) sub).2.2 with _ | cf
                all_goals
                  rw [eo] at hkc
                  simp only [Option.getD_none, Option.isSome_none, Option.getD_some, Option.isSome_some] at hkc
                  have HKC := Lib.hid hkc
                  have HE2 := Lib.hid eo
                  clear hkc eo
                  go_wp2_with fail
                  refine HKC.out.mono ?_
                  rintro e w2 ⟨rfl, hcr⟩
                · have HC2 := Lib.hid (HREST.out _ _ _ hcr)
                  clear hcr
                  go_wp2_with fail
                  go_roundw
                  case rel => exact ⟨k + 1, by omega, by go_num, Lib.hid ⟨_, _, HSO.out.on h50 hlt (by rw [HEK.out, doS_4]), by
                    rw [HEK.out, doS_4, HE2.out]
                    simp only [Option.toList_none, List.append_nil]
                    exact HC2.out.behind ((Kept.refl _ _).alloc _)⟩⟩
                  case measure => simp [intOf]; omega
                · have c32 := (HNX.out _ _ _ hcr).1
                  obtain ⟨v2, t2, b2, k2', o2⟩ := hcr
                  have kf : Kept (fun _ => False) w2 (w2.alloc (.cells #[.int .i64 cf] 53)) := (Kept.refl _ _).alloc _
                  have c33 := kf.cell c32 id
                  have hl2 := doL_len bp.isNone (d + 1) (deep + 1) sub
                  have hl3 : ((ns ++ acc) ++ (doL bp.isNone (d + 1) (deep + 1) sub).1).length < 1099511627776 := by
                    rw [List.length_append]
                    omega
                  have hnc := note_carry tb B bp v2 ((ns ++ acc) ++ (doL bp.isNone (d + 1) (deep + 1) sub).1) cf d _ _ (t2.kept kf id fun _ _ => id) (b2.kept kf fun _ _ => id) hBt hbB hl3
                  have HNC := Lib.hid hnc
                  have HK3 := Lib.hid k2'
                  have HO3 := Lib.hid o2
                  have HKF := Lib.hid kf
                  clear hnc t2 b2 k2' o2 kf hl2 hl3
                  go_wp2_with fail
                  refine HNC.out.mono ?_
                  rintro e w4 ⟨rfl, hn⟩
                  have HC2 := Lib.hid (HREST.out _ _ _ (Carry.more HK3.out HO3.out (Carry.ahead HKF.out hn)))
                  clear hn
                  go_wp2_with fail
                  go_roundw
                  case rel => exact ⟨k + 1, by omega, by go_num, Lib.hid ⟨_, _, HSO.out.on h50 hlt (by rw [HEK.out, doS_4]), by
                    rw [HEK.out, doS_4, HE2.out]
                    have := HC2.out
                    rwa [Nat.max_zero] at this⟩⟩
                  case measure => simp [intOf]; omega
              · go_wp2_with fail
                go_roundw
                case rel => exact ⟨k + 1, by omega, by go_num, Lib.hid ⟨_, _, HSO.out.on h50 hlt (by rw [HEK.out, doS_0 k1 k2 k3 k4]), by
                  rw [HEK.out, doS_0 k1 k2 k3 k4]
                  exact HREST.out _ _ _ (Carry.start HTS.out HBS.out)⟩⟩
                case measure => simp [intOf]; omega
      · go_wp2_with fail
        go_end0
        obtain ⟨acc, p, hso, hca⟩ := hcar.out
        rw [hso.done (by omega)]
        exact ⟨rfl, hca.ahead HK2.out⟩

/-- do is done rightly at all steps. -/
theorem do_any {N : Nat → Prop} {tb B : Nat} {bp : Option Nat} (hBt : B ≤ tb) (hbB : ∀ b, bp = some b → b < B) (hN : ∀ k, N k → k < B ∧ bp ≠ some k) : ∀ (n : Nat) (l : List Stp), cntL l < n → DoOK N tb B bp l
  | 0, _, h => absurd h (by omega)
  | n + 1, l, h => do_step (fun k hk kk c sub e => do_any hBt hbB hN n sub (by
      have := cntL_get l k hk
      rw [e, cntS] at this
      omega)) hBt hbB hN

end Go.Proofs.Ytopmcjpnfnfjiaa
