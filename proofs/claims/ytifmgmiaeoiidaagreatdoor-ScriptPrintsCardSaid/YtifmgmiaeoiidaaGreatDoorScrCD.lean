/-
  The walks of the reference's Decimal, Signed, Records and only (layer script). Records of at most 2^36 bytes in all.
-/
import Derived.Test.YtifmgmiaeoiidaaGreatDoorScrBI
import Derived.Test.YtifmgmiaeoiidaaGreatDoorScrAF
namespace Go.Scrp
theorem dec_big {m : Nat} (h : ¬ m < 10) : Lib.decDigits m = Lib.decDigits (m / 10) ++ [UInt8.ofNat (48 + m % 10)] := by rw [Lib.decDigits, dif_neg h]
theorem tail_snoc (d : UInt8) (y : List UInt8) : ∀ r : List (List UInt8), Lib.joinTail [d] (r ++ [y]) = Lib.joinTail [d] r ++ ([d] ++ y)
  | [] => by rw [List.nil_append, tail_cons, tail_nil, List.append_nil]; rfl
  | x :: r => by
    rw [List.cons_append, tail_cons, tail_cons, tail_snoc d y r]
    simp
/-- Records' words, joined. -/
def recT (l : List (List UInt8)) : List UInt8 := Lib.join (l.map itemL) [44]
theorem recT_one {l : List (List UInt8)} (h : 0 < l.length) : recT (l.take 1) = itemL l[0] := by
  cases l with
  | nil => simp at h
  | cons x r => simp [recT, Lib.join_one]
theorem recT_snoc {l : List (List UInt8)} {k : Nat} (hk : 0 < k) (h : k < l.length) : recT (l.take (k + 1)) = recT (l.take k) ++ ([44] ++ itemL l[k]) := by
  cases l with
  | nil => simp at h
  | cons x r =>
    obtain ⟨j, rfl⟩ : ∃ j, k = j + 1 := ⟨k - 1, by omega⟩
    have hj : j < r.length := by simpa using h
    rw [recT, recT, List.take_succ_cons, List.take_succ_cons, List.map_cons, List.map_cons, Lib.join_cons, Lib.join_cons, List.take_succ_eq_append_getElem hj, List.map_append, List.map_cons, List.map_nil, tail_snoc, List.append_assoc]
    simp
theorem recT_len (l : List (List UInt8)) (k : Nat) : (recT (l.take k)).length ≤ 2 * bulk l := by
  by_cases h : (l.take k).map itemL = []
  · rw [recT, h]
    exact Nat.zero_le _
  · have h1 := join_bulk 44 _ h
    have h2 := item_bulk (l.take k)
    have h3 : bulk l = bulk (l.take k) + bulk (l.drop k) := by rw [← bulk_append, List.take_append_drop]
    unfold recT
    omega
end Go.Scrp
namespace Go.Proofs.YtifmgmiaeoiidaaGreatDoor
open Go.RowKit Go.Colm Go.Scrp
set_option linter.unusedVariables false

theorem conv_one (P : Program) (w : World) (src e dst : TypeId) (hs : P.underlying src = some (.slice e)) (he : P.underlying e = some (.int .u8)) (hd : P.underlying dst = some .string) (x : Nat) (hx : x < 256) :
    (convert src dst (.slice (some ⟨w.heap.size, 0, none⟩) 1 1)).run P (w.alloc (.cells #[.int .u8 (x : Int)] e)) = .ok (.string ⟨#[UInt8.ofNat x]⟩) (w.alloc (.cells #[.int .u8 (x : Int)] e)) := by
  refine run_text hs he (w.alloc (.cells #[.int .u8 (x : Int)] e)) (some ⟨w.heap.size, 0, none⟩) [UInt8.ofNat x] 1 (fun i v hv => ?_) (fun a e => by cases e; rfl) dst hd
  have hi : i = 0 := by
    rcases Nat.eq_zero_or_pos i with h | h
    · exact h
    · simp [bytesV] at hv
      have := (List.getElem?_eq_some_iff.1 hv).1
      simp at this
      omega
  subst hi
  refine ⟨w.heap.size, 0, rfl, ?_⟩
  have h := (Whole.new w e #[.int .u8 (x : Int)]).cell 0
  have e1 : (UInt8.ofNat x).toNat = x := by
    rw [UInt8.toNat_ofNat']
    omega
  simp [bytesV] at hv
  rw [h, ← hv]
  simp
  omega

set_option maxRecDepth 100000 in
set_option maxHeartbeats 4000000 in
theorem rdecimal_any (n : Nat) (hn : n < 18446744073709551616) (w : World) : Calls Tryz.prog 28 #[.int .u64 (n : Int)] w fun e w' => e = .returned (.string ⟨(Lib.decDigits n).toArray⟩) ∧ Below w.heap.size w w' := by
  have HB0 : Hid (Below w.heap.size w w) := Lib.hid (Below.refl _ _)
  have hdl := dec_len hn
  obtain ⟨D, hD⟩ : ∃ D, D = Lib.decDigits n := ⟨_, rfl⟩
  rw [← hD] at hdl ⊢
  have HD0 : Hid (D = Lib.decDigits n ++ []) := Lib.hid (by rw [hD, List.append_nil])
  clear hD
  go_enter Tryz.func28, Tryz.ntmps28
  go_wp2_with fail
  go_loopw [0, 3] (fun v s wr => ∃ (m : Nat) (t : List UInt8), m < 18446744073709551616 ∧ v = .int .u64 (m : Int) ∧ s = .string ⟨t.toArray⟩ ∧ Hid (D = Lib.decDigits m ++ t) ∧ Hid (Below w.heap.size w wr)) (fun v _ _ => (intOf v).toNat)
  case atStart => exact ⟨n, [], hn, rfl, rfl, HD0, HB0⟩
  case round =>
    obtain ⟨m, t, hm, rfl, rfl, HD, HB⟩ := hrel
    clear HD0 HB0
    have htl : t.length ≤ 20 := by
      have := congrArg List.length HD.out
      rw [List.length_append] at this
      omega
    have htz := str_size t
    obtain ⟨T, hT⟩ : ∃ T : ByteArray, T = ⟨t.toArray⟩ := ⟨_, rfl⟩
    rw [← hT] at htz ⊢
    have HT := Lib.hid hT
    clear hT
    by_cases h10 : 9 < m
    · have hcv := conv_one Tryz.prog wr 44 5 9 Tryz.underlying44 Tryz.underlying5 Tryz.underlying9 (48 + m % 10) (by omega)
      rw [show ((48 + m % 10 : Nat) : Int) = 48 + (m : Int) % 10 by omega] at hcv
      have HN : Hid (D = Lib.decDigits (m / 10) ++ ([UInt8.ofNat (48 + m % 10)] ++ t)) := Lib.hid (by rw [HD.out, dec_big (by omega), List.append_assoc])
      obtain ⟨c, hc⟩ : ∃ c, c = UInt8.ofNat (48 + m % 10) := ⟨_, rfl⟩
      rw [← hc] at hcv HN
      clear hc
      go_wp2_with fail
      go_roundw
      case rel => exact ⟨m / 10, [c] ++ t, by omega, by go_num, by rw [HT.out]; exact congrArg Value.string (str_append [c] t), HN, Lib.hid (HB.out.alloc HB.out.size _)⟩
      case measure => simp [intOf]; omega
    · have hcv := conv_one Tryz.prog wr 44 5 9 Tryz.underlying44 Tryz.underlying5 Tryz.underlying9 (48 + m) (by omega)
      rw [show ((48 + m : Nat) : Int) = 48 + (m : Int) by omega] at hcv
      have HN : Hid (D = [UInt8.ofNat (48 + m)] ++ t) := Lib.hid (by rw [HD.out, Lib.decDigits_one (by omega)])
      obtain ⟨c, hc⟩ : ∃ c, c = UInt8.ofNat (48 + m) := ⟨_, rfl⟩
      rw [← hc] at hcv HN
      clear hc
      go_wp2_with fail
      go_ret
      refine ⟨?_, HB.out.alloc HB.out.size _⟩
      rw [HN.out, HT.out]
      exact congrArg (fun v => Ending.returned (.string v)) (str_append [c] t)

set_option maxRecDepth 100000 in
set_option maxHeartbeats 4000000 in
theorem rsignedp_any (n : Int) (h1 : -9223372036854775808 ≤ n) (h2 : n ≤ 9223372036854775807) (w : World) : Calls Tryz.prog 31 #[.int .i64 n] w fun e w' => e = .returned (.string ⟨(Lib.itoa n).toArray⟩) ∧ Below w.heap.size w w' := by
  by_cases h0 : n < 0
  · obtain ⟨u, hu⟩ : ∃ u : Nat, n = -(u : Int) := ⟨n.natAbs, by omega⟩
    have hu1 : 1 ≤ u := by omega
    have hu2 : u ≤ 9223372036854775808 := by omega
    have tw : IntKind.u64.wrap n = 18446744073709551616 - (u : Int) := by
      rw [hu]
      unfold IntKind.wrap
      simp [IntKind.bits, IntKind.signed]
      omega
    have tw2 : IntKind.u64.wrap (-(18446744073709551616 - (u : Int))) = (u : Int) := by
      unfold IntKind.wrap
      simp [IntKind.bits, IntKind.signed]
      omega
    have HDC := Lib.hid (fun W => rdecimal_any u (by omega) W)
    have HI : Hid (Lib.itoa n = [45] ++ Lib.decDigits u) := Lib.hid (by rw [hu, Lib.itoa_neg u hu1]; rfl)
    have hdl := dec_len (u := u) (by omega)
    have hdz := str_size (Lib.decDigits u)
    obtain ⟨T, hT⟩ : ∃ T : ByteArray, T = ⟨(Lib.decDigits u).toArray⟩ := ⟨_, rfl⟩
    rw [← hT] at hdz
    simp only [← hT] at HDC
    have HT := Lib.hid hT
    clear hT hu
    go_enter Tryz.func31, Tryz.ntmps31
    go_wp2_with fail
    refine (HDC.out _).mono ?_
    rintro e w2 ⟨rfl, hb2⟩
    have HB2 := Lib.hid hb2
    clear hb2
    go_wp2_with fail
    go_ret
    refine ⟨?_, HB2.out⟩
    rw [HI.out, HT.out]
    exact congrArg (fun v => Ending.returned (.string v)) (str_append [45] (Lib.decDigits u))
  · obtain ⟨u, rfl⟩ : ∃ u : Nat, n = (u : Int) := ⟨n.toNat, by omega⟩
    have HDC := Lib.hid (fun W => rdecimal_any u (by omega) W)
    have HI : Hid (Lib.itoa (u : Int) = Lib.decDigits u) := Lib.hid (Lib.itoa_nonneg u)
    go_enter Tryz.func31, Tryz.ntmps31
    go_wp2_with fail
    refine (HDC.out _).mono ?_
    rintro e w2 ⟨rfl, hb2⟩
    have HB2 := Lib.hid hb2
    clear hb2
    go_wp2_with fail
    go_ret
    exact ⟨by rw [HI.out]; rfl, HB2.out⟩

set_option maxRecDepth 100000 in
set_option maxHeartbeats 4000000 in
theorem rrecs_any (N : Nat → Prop) (l : List (List UInt8)) (A : Option Addr) (c : Nat) (w : World) (hr : RecsAt N w A l) (hl : bulk l < 137438953472) :
    Calls Tryz.prog 30 #[.slice A l.length c] w fun e w' => e = .returned (.string ⟨(setL l).toArray⟩) ∧ Below w.heap.size w w' := by
  have hll := bulk_length l
  by_cases h0 : l = []
  · have HS : Hid (setL l = [46]) := Lib.hid (by rw [setL, if_pos h0])
    have hz : l.length = 0 := by rw [h0]; rfl
    have t0 : ((l.length : Int) == 0) = true := by rw [hz]; rfl
    clear h0 hz hr
    go_enter Tryz.func30, Tryz.ntmps30
    go_wp2_with fail
    go_ret
    exact ⟨by rw [HS.out]; rfl, Below.refl _ _⟩
  have hpos : 0 < l.length := by
    cases l with
    | nil => exact absurd rfl h0
    | cons x r => simp
  have t0 : ((l.length : Int) == 0) = false := by rw [beq_eq_false_iff_ne]; omega
  have HS : Hid (setL l = recT l) := Lib.hid (by rw [setL, if_neg h0]; rfl)
  have HR := Lib.hid hr
  have HB0 : Hid (Below w.heap.size w w) := Lib.hid (Below.refl _ _)
  have HT0 : Hid (([] : List UInt8) = recT (l.take 0)) := Lib.hid rfl
  clear h0 hr
  go_enter Tryz.func30, Tryz.ntmps30
  go_wp2_with fail
  go_loopw [3, 4] (fun s i wr => ∃ (k : Nat) (t : List UInt8), k ≤ l.length ∧ s = .string ⟨t.toArray⟩ ∧ i = .int .i64 (k : Int) ∧ Hid (t = recT (l.take k)) ∧ Hid (Below w.heap.size w wr)) (fun _ i _ => l.length - (intOf i).toNat)
  case atStart => exact ⟨0, [], Nat.zero_le _, rfl, rfl, HT0, HB0⟩
  case round =>
    obtain ⟨k, t, hk, rfl, rfl, HT, HB⟩ := hrel
    clear HT0 HB0
    have htl := recT_len l k
    rw [← HT.out] at htl
    have htz := str_size t
    obtain ⟨T, hT⟩ : ∃ T : ByteArray, T = ⟨t.toArray⟩ := ⟨_, rfl⟩
    rw [← hT] at htz ⊢
    have HTT := Lib.hid hT
    clear hT
    by_cases hlt : k < l.length
    · obtain ⟨b1, o1, A1, p1, rfl, _, hc1, hl1, hr1⟩ := RecsAt.turn (Turn.below HB.out) HR.out k hlt
      have hxb := bulk_get l k hlt
      obtain ⟨x, hx⟩ : ∃ x, x = l[k] := ⟨_, rfl⟩
      rw [← hx] at hc1 hl1 hr1 hxb
      have hstep : recT (l.take (k + 1)) = if 0 < k then t ++ ([44] ++ itemL x) else itemL x := by
        by_cases h : 0 < k
        · rw [if_pos h, recT_snoc h hlt, ← HT.out, hx]
        · rw [if_neg h]
          have h0 : k = 0 := by omega
          subst h0
          rw [recT_one hpos, hx]
      have HST := Lib.hid hstep
      have ht0 : ¬ 0 < k → t = [] := fun h => by
        have h0 : k = 0 := by omega
        rw [HT.out, h0]
        rfl
      have HT0 := Lib.hid ht0
      clear hx hstep ht0
      by_cases hx0 : x = []
      · have hxl : x.length = 0 := by rw [hx0]; rfl
        have tx : ((x.length : Int) == 0) = true := by rw [hxl]; rfl
        have HI : Hid (itemL x = [45]) := Lib.hid (by rw [itemL, if_pos hx0])
        clear hx0 hr1 hxl
        by_cases hk0 : 0 < k
        · have HN : Hid (t ++ [44] ++ [45] = recT (l.take (k + 1))) := Lib.hid (by rw [HST.out, if_pos hk0, HI.out]; simp)
          go_wp2_with fail
          go_roundw
          case rel => exact ⟨k + 1, t ++ [44] ++ [45], by omega, by rw [HTT.out]; exact congrArg Value.string ((congrArg (· ++ (⟨#[45]⟩ : ByteArray)) (str_append t [44])).trans (str_append (t ++ [44]) [45])), by go_num, HN, HB⟩
          case measure => simp [intOf]; omega
        · have HN : Hid (t ++ [45] = recT (l.take (k + 1))) := Lib.hid (by rw [HST.out, if_neg hk0, HI.out, HT0.out hk0]; rfl)
          go_wp2_with fail
          go_roundw
          case rel => exact ⟨k + 1, t ++ [45], by omega, by rw [HTT.out]; exact congrArg Value.string (str_append t [45]), by go_num, HN, HB⟩
          case measure => simp [intOf]; omega
      · have tx : ((x.length : Int) == 0) = false := by
          rw [beq_eq_false_iff_ne]
          intro e
          exact hx0 (List.eq_nil_of_length_eq_zero (by omega))
        have HI : Hid (itemL x = hexL x) := Lib.hid (by rw [itemL, if_neg hx0])
        have hcv := run_text (P := Tryz.prog) Tryz.underlying44 Tryz.underlying5 wr A1 x p1 hr1.row (fun a e => by
          cases x with
          | nil => exact absurd rfl hx0
          | cons y q =>
            obtain ⟨b', off', h, _⟩ := hr1.row 0 _ rfl
            subst h
            cases e
            rfl) 9 Tryz.underlying9
        have hhx := rhex_any ⟨x.toArray⟩ wr (by rw [str_size]; omega)
        have hxd : (ByteArray.mk x.toArray).data.toList = x := by simp
        rw [hxd] at hhx
        have hhl := hexL_length x
        have hhz := str_size (hexL x)
        obtain ⟨X, hX⟩ : ∃ X : ByteArray, X = ⟨x.toArray⟩ := ⟨_, rfl⟩
        obtain ⟨Hx, hHx⟩ : ∃ X : ByteArray, X = ⟨(hexL x).toArray⟩ := ⟨_, rfl⟩
        rw [← hX] at hcv hhx
        rw [← hHx] at hhx hhz
        have HHX := Lib.hid hhx
        have HHE := Lib.hid hHx
        have hh2 : Hx.size ≤ 274877906944 := by omega
        clear hx0 hr1 hhx hX hHx hxd hhl hhz
        by_cases hk0 : 0 < k
        · have HN : Hid (t ++ [44] ++ hexL x = recT (l.take (k + 1))) := Lib.hid (by rw [HST.out, if_pos hk0, HI.out]; simp)
          go_wp2_with fail
          refine HHX.out.mono ?_
          rintro e w2 ⟨rfl, hb2⟩
          have HB2 := Lib.hid (below_chain HB.out hb2)
          clear hb2
          go_wp2_with fail
          go_roundw
          case rel => exact ⟨k + 1, t ++ [44] ++ hexL x, by omega, by rw [HTT.out, HHE.out]; exact congrArg Value.string ((congrArg (· ++ (⟨(hexL x).toArray⟩ : ByteArray)) (str_append t [44])).trans (str_append (t ++ [44]) (hexL x))), by go_num, HN, HB2⟩
          case measure => simp [intOf]; omega
        · have HN : Hid (t ++ hexL x = recT (l.take (k + 1))) := Lib.hid (by rw [HST.out, if_neg hk0, HI.out, HT0.out hk0]; rfl)
          go_wp2_with fail
          refine HHX.out.mono ?_
          rintro e w2 ⟨rfl, hb2⟩
          have HB2 := Lib.hid (below_chain HB.out hb2)
          clear hb2
          go_wp2_with fail
          go_roundw
          case rel => exact ⟨k + 1, t ++ hexL x, by omega, by rw [HTT.out, HHE.out]; exact congrArg Value.string (str_append t (hexL x)), by go_num, HN, HB2⟩
          case measure => simp [intOf]; omega
    · have hk2 : k = l.length := by omega
      have HF : Hid (T = ⟨(setL l).toArray⟩) := Lib.hid (by rw [HTT.out, HT.out, HS.out, hk2, List.take_length])
      go_wp2_with fail
      go_ret
      exact ⟨by rw [← HF.out]; rfl, HB.out⟩
-- ONLY
theorem nat_eq0 (x : Nat) : ((x : Int) == 0) = decide (x = 0) := by
  by_cases h : x = 0
  · subst h
    rfl
  · rw [decide_eq_false h, beq_eq_false_iff_ne]
    omega
theorem int_eq0 (x : Int) : (x == 0) = decide (x = 0) := by
  by_cases h : x = 0
  · subst h
    rfl
  · rw [decide_eq_false h, beq_eq_false_iff_ne]
    exact h

set_option maxRecDepth 100000 in
set_option maxHeartbeats 8000000 in
theorem ronly_any (h : Hd) (m : Nat) (RA SA : Option Addr) (rc sc : Nat) (w : World) (h1 : 1 ≤ h.kind) (h8 : h.kind ≤ 8) :
    Calls Tryz.prog 29 #[opV h (.slice RA h.recs.length rc) (.slice SA m sc)] w fun e w' => e = .returned (.bool (ownT h m)) ∧ Below w.heap.size w w' := by
  obtain ⟨k, nm, t, rs, lf, n, hw, cd⟩ := h
  dsimp only at h1 h8 ⊢
  have fr := nat_eq0 rs.length
  have fl := nat_eq0 lf
  have f0 := nat_eq0 n
  have fm := nat_eq0 m
  have fh := int_eq0 hw
  have fc := int_eq0 cd
  obtain ⟨z, hz⟩ : ∃ z, z = ownT ⟨k, nm, t, rs, lf, n, hw, cd⟩ m := ⟨_, rfl⟩
  rw [← hz]
  unfold ownT at hz
  dsimp only at hz
  obtain ⟨er, her⟩ : ∃ q, q = decide (rs.length = 0) := ⟨_, rfl⟩
  obtain ⟨el, hel⟩ : ∃ q, q = decide (lf = 0) := ⟨_, rfl⟩
  obtain ⟨e0, he0⟩ : ∃ q, q = decide (n = 0) := ⟨_, rfl⟩
  obtain ⟨em, hem⟩ : ∃ q, q = decide (m = 0) := ⟨_, rfl⟩
  obtain ⟨eh, heh⟩ : ∃ q, q = decide (hw = 0) := ⟨_, rfl⟩
  obtain ⟨ec, hec⟩ : ∃ q, q = decide (cd = 0) := ⟨_, rfl⟩
  rw [← her] at fr hz
  rw [← hel] at fl hz
  rw [← he0] at f0 hz
  rw [← hem] at fm hz
  rw [← heh] at fh hz
  rw [← hec] at fc hz
  clear her hel he0 hem heh hec
  have hk : k = 1 ∨ k = 2 ∨ k = 3 ∨ k = 4 ∨ k = 5 ∨ k = 6 ∨ k = 7 ∨ k = 8 := by omega
  clear h1 h8
  rcases hk with rfl | rfl | rfl | rfl | rfl | rfl | rfl | rfl
  · -- kind 1
    have HZE : Hid (z = (e0 && em && eh && ec)) := Lib.hid (by rw [hz, show keyT 1 = true from rfl, show cntT 1 = false from rfl]; simp [Bool.and_assoc])
    clear hz
    cases e0
    · have HZ : Hid (z = false) := Lib.hid (by rw [HZE.out]; simp)
      go_enter Tryz.func29, Tryz.ntmps29
      go_wp2_with fail
      go_ret
      exact ⟨ret_bool HZ.out.symm, (Below.refl _ w).alloc (Nat.le_refl _) _⟩
    · skip
      cases em
      · have HZ : Hid (z = false) := Lib.hid (by rw [HZE.out]; simp)
        go_enter Tryz.func29, Tryz.ntmps29
        go_wp2_with fail
        go_ret
        exact ⟨ret_bool HZ.out.symm, (Below.refl _ w).alloc (Nat.le_refl _) _⟩
      · skip
        cases eh
        · have HZ : Hid (z = false) := Lib.hid (by rw [HZE.out]; simp)
          go_enter Tryz.func29, Tryz.ntmps29
          go_wp2_with fail
          go_ret
          exact ⟨ret_bool HZ.out.symm, (Below.refl _ w).alloc (Nat.le_refl _) _⟩
        · skip
          have HZ : Hid (z = ec) := Lib.hid (by rw [HZE.out]; simp)
          go_enter Tryz.func29, Tryz.ntmps29
          go_wp2_with fail
          go_ret
          exact ⟨ret_bool HZ.out.symm, (Below.refl _ w).alloc (Nat.le_refl _) _⟩
  · -- kind 2
    have HZE : Hid (z = (er && el && e0 && em && eh && ec)) := Lib.hid (by rw [hz, show keyT 2 = true from rfl, show cntT 2 = false from rfl]; simp [Bool.and_assoc])
    clear hz
    cases er
    · have HZ : Hid (z = false) := Lib.hid (by rw [HZE.out]; simp)
      go_enter Tryz.func29, Tryz.ntmps29
      go_wp2_with fail
      go_ret
      exact ⟨ret_bool HZ.out.symm, (Below.refl _ w).alloc (Nat.le_refl _) _⟩
    · skip
      cases el
      · have HZ : Hid (z = false) := Lib.hid (by rw [HZE.out]; simp)
        go_enter Tryz.func29, Tryz.ntmps29
        go_wp2_with fail
        go_ret
        exact ⟨ret_bool HZ.out.symm, (Below.refl _ w).alloc (Nat.le_refl _) _⟩
      · skip
        cases e0
        · have HZ : Hid (z = false) := Lib.hid (by rw [HZE.out]; simp)
          go_enter Tryz.func29, Tryz.ntmps29
          go_wp2_with fail
          go_ret
          exact ⟨ret_bool HZ.out.symm, (Below.refl _ w).alloc (Nat.le_refl _) _⟩
        · skip
          cases em
          · have HZ : Hid (z = false) := Lib.hid (by rw [HZE.out]; simp)
            go_enter Tryz.func29, Tryz.ntmps29
            go_wp2_with fail
            go_ret
            exact ⟨ret_bool HZ.out.symm, (Below.refl _ w).alloc (Nat.le_refl _) _⟩
          · skip
            cases eh
            · have HZ : Hid (z = false) := Lib.hid (by rw [HZE.out]; simp)
              go_enter Tryz.func29, Tryz.ntmps29
              go_wp2_with fail
              go_ret
              exact ⟨ret_bool HZ.out.symm, (Below.refl _ w).alloc (Nat.le_refl _) _⟩
            · skip
              have HZ : Hid (z = ec) := Lib.hid (by rw [HZE.out]; simp)
              go_enter Tryz.func29, Tryz.ntmps29
              go_wp2_with fail
              go_ret
              exact ⟨ret_bool HZ.out.symm, (Below.refl _ w).alloc (Nat.le_refl _) _⟩
  · -- kind 3
    have HZE : Hid (z = (er && el && e0)) := Lib.hid (by rw [hz, show keyT 3 = true from rfl, show cntT 3 = false from rfl]; simp [Bool.and_assoc])
    clear hz
    cases er
    · have HZ : Hid (z = false) := Lib.hid (by rw [HZE.out]; simp)
      go_enter Tryz.func29, Tryz.ntmps29
      go_wp2_with fail
      go_ret
      exact ⟨ret_bool HZ.out.symm, (Below.refl _ w).alloc (Nat.le_refl _) _⟩
    · skip
      cases el
      · have HZ : Hid (z = false) := Lib.hid (by rw [HZE.out]; simp)
        go_enter Tryz.func29, Tryz.ntmps29
        go_wp2_with fail
        go_ret
        exact ⟨ret_bool HZ.out.symm, (Below.refl _ w).alloc (Nat.le_refl _) _⟩
      · skip
        cases e0
        · have HZ : Hid (z = false) := Lib.hid (by rw [HZE.out]; simp)
          go_enter Tryz.func29, Tryz.ntmps29
          go_wp2_with fail
          go_ret
          exact ⟨ret_bool HZ.out.symm, (Below.refl _ w).alloc (Nat.le_refl _) _⟩
        · skip
          have HZ : Hid (z = true) := Lib.hid (by rw [HZE.out]; simp)
          go_enter Tryz.func29, Tryz.ntmps29
          go_wp2_with fail
          go_ret
          exact ⟨ret_bool HZ.out.symm, (Below.refl _ w).alloc (Nat.le_refl _) _⟩
  · -- kind 4
    have HZE : Hid (z = (er && el && e0 && em && eh && ec)) := Lib.hid (by rw [hz, show keyT 4 = true from rfl, show cntT 4 = false from rfl]; simp [Bool.and_assoc])
    clear hz
    cases er
    · have HZ : Hid (z = false) := Lib.hid (by rw [HZE.out]; simp)
      go_enter Tryz.func29, Tryz.ntmps29
      go_wp2_with fail
      go_ret
      exact ⟨ret_bool HZ.out.symm, (Below.refl _ w).alloc (Nat.le_refl _) _⟩
    · skip
      cases el
      · have HZ : Hid (z = false) := Lib.hid (by rw [HZE.out]; simp)
        go_enter Tryz.func29, Tryz.ntmps29
        go_wp2_with fail
        go_ret
        exact ⟨ret_bool HZ.out.symm, (Below.refl _ w).alloc (Nat.le_refl _) _⟩
      · skip
        cases e0
        · have HZ : Hid (z = false) := Lib.hid (by rw [HZE.out]; simp)
          go_enter Tryz.func29, Tryz.ntmps29
          go_wp2_with fail
          go_ret
          exact ⟨ret_bool HZ.out.symm, (Below.refl _ w).alloc (Nat.le_refl _) _⟩
        · skip
          cases em
          · have HZ : Hid (z = false) := Lib.hid (by rw [HZE.out]; simp)
            go_enter Tryz.func29, Tryz.ntmps29
            go_wp2_with fail
            go_ret
            exact ⟨ret_bool HZ.out.symm, (Below.refl _ w).alloc (Nat.le_refl _) _⟩
          · skip
            cases eh
            · have HZ : Hid (z = false) := Lib.hid (by rw [HZE.out]; simp)
              go_enter Tryz.func29, Tryz.ntmps29
              go_wp2_with fail
              go_ret
              exact ⟨ret_bool HZ.out.symm, (Below.refl _ w).alloc (Nat.le_refl _) _⟩
            · skip
              have HZ : Hid (z = ec) := Lib.hid (by rw [HZE.out]; simp)
              go_enter Tryz.func29, Tryz.ntmps29
              go_wp2_with fail
              go_ret
              exact ⟨ret_bool HZ.out.symm, (Below.refl _ w).alloc (Nat.le_refl _) _⟩
  · -- kind 5
    by_cases hkey : nm = [] ∧ t = 0
    rotate_left
    · have HZ : Hid (z = false) := Lib.hid (by
        rw [hz]
        have hh : (decide (nm = []) && decide (t = 0)) = false := by
          rw [Bool.and_eq_false_iff]
          by_cases e : nm = []
          · exact .inr (decide_eq_false fun e2 => hkey ⟨e, e2⟩)
          · exact .inl (decide_eq_false e)
        rw [hh, show keyT 5 = false from rfl]
        rfl)
      have HKEY := Lib.hid hkey
      clear hz hkey fr fl f0 fm fh fc
      go_enter Tryz.func29, Tryz.ntmps29
      go_wp2_with fail
      all_goals first
        | exact absurd ⟨by assumption, by assumption⟩ HKEY.out
        | (go_ret; exact ⟨ret_bool HZ.out.symm, (Below.refl _ w).alloc (Nat.le_refl _) _⟩)
    obtain ⟨rfl, rfl⟩ := hkey
    have HZE : Hid (z = (er && el && em && eh && ec)) := Lib.hid (by rw [hz, show keyT 5 = false from rfl, show cntT 5 = true from rfl]; simp [Bool.and_assoc])
    clear hz
    cases er
    · have HZ : Hid (z = false) := Lib.hid (by rw [HZE.out]; simp)
      go_enter Tryz.func29, Tryz.ntmps29
      go_wp2_with fail
      go_ret
      exact ⟨ret_bool HZ.out.symm, (Below.refl _ w).alloc (Nat.le_refl _) _⟩
    · skip
      cases el
      · have HZ : Hid (z = false) := Lib.hid (by rw [HZE.out]; simp)
        go_enter Tryz.func29, Tryz.ntmps29
        go_wp2_with fail
        go_ret
        exact ⟨ret_bool HZ.out.symm, (Below.refl _ w).alloc (Nat.le_refl _) _⟩
      · skip
        cases em
        · have HZ : Hid (z = false) := Lib.hid (by rw [HZE.out]; simp)
          go_enter Tryz.func29, Tryz.ntmps29
          go_wp2_with fail
          go_ret
          exact ⟨ret_bool HZ.out.symm, (Below.refl _ w).alloc (Nat.le_refl _) _⟩
        · skip
          cases eh
          · have HZ : Hid (z = false) := Lib.hid (by rw [HZE.out]; simp)
            go_enter Tryz.func29, Tryz.ntmps29
            go_wp2_with fail
            go_ret
            exact ⟨ret_bool HZ.out.symm, (Below.refl _ w).alloc (Nat.le_refl _) _⟩
          · skip
            have HZ : Hid (z = ec) := Lib.hid (by rw [HZE.out]; simp)
            go_enter Tryz.func29, Tryz.ntmps29
            go_wp2_with fail
            go_ret
            exact ⟨ret_bool HZ.out.symm, (Below.refl _ w).alloc (Nat.le_refl _) _⟩
  · -- kind 6
    by_cases hkey : nm = [] ∧ t = 0
    rotate_left
    · have HZ : Hid (z = false) := Lib.hid (by
        rw [hz]
        have hh : (decide (nm = []) && decide (t = 0)) = false := by
          rw [Bool.and_eq_false_iff]
          by_cases e : nm = []
          · exact .inr (decide_eq_false fun e2 => hkey ⟨e, e2⟩)
          · exact .inl (decide_eq_false e)
        rw [hh, show keyT 6 = false from rfl]
        rfl)
      have HKEY := Lib.hid hkey
      clear hz hkey fr fl f0 fm fh fc
      go_enter Tryz.func29, Tryz.ntmps29
      go_wp2_with fail
      all_goals first
        | exact absurd ⟨by assumption, by assumption⟩ HKEY.out
        | (go_ret; exact ⟨ret_bool HZ.out.symm, (Below.refl _ w).alloc (Nat.le_refl _) _⟩)
    obtain ⟨rfl, rfl⟩ := hkey
    have HZE : Hid (z = (er && el && em && eh && ec)) := Lib.hid (by rw [hz, show keyT 6 = false from rfl, show cntT 6 = true from rfl]; simp [Bool.and_assoc])
    clear hz
    cases er
    · have HZ : Hid (z = false) := Lib.hid (by rw [HZE.out]; simp)
      go_enter Tryz.func29, Tryz.ntmps29
      go_wp2_with fail
      go_ret
      exact ⟨ret_bool HZ.out.symm, (Below.refl _ w).alloc (Nat.le_refl _) _⟩
    · skip
      cases el
      · have HZ : Hid (z = false) := Lib.hid (by rw [HZE.out]; simp)
        go_enter Tryz.func29, Tryz.ntmps29
        go_wp2_with fail
        go_ret
        exact ⟨ret_bool HZ.out.symm, (Below.refl _ w).alloc (Nat.le_refl _) _⟩
      · skip
        cases em
        · have HZ : Hid (z = false) := Lib.hid (by rw [HZE.out]; simp)
          go_enter Tryz.func29, Tryz.ntmps29
          go_wp2_with fail
          go_ret
          exact ⟨ret_bool HZ.out.symm, (Below.refl _ w).alloc (Nat.le_refl _) _⟩
        · skip
          cases eh
          · have HZ : Hid (z = false) := Lib.hid (by rw [HZE.out]; simp)
            go_enter Tryz.func29, Tryz.ntmps29
            go_wp2_with fail
            go_ret
            exact ⟨ret_bool HZ.out.symm, (Below.refl _ w).alloc (Nat.le_refl _) _⟩
          · skip
            have HZ : Hid (z = ec) := Lib.hid (by rw [HZE.out]; simp)
            go_enter Tryz.func29, Tryz.ntmps29
            go_wp2_with fail
            go_ret
            exact ⟨ret_bool HZ.out.symm, (Below.refl _ w).alloc (Nat.le_refl _) _⟩
  · -- kind 7
    by_cases hkey : nm = [] ∧ t = 0
    rotate_left
    · have HZ : Hid (z = false) := Lib.hid (by
        rw [hz]
        have hh : (decide (nm = []) && decide (t = 0)) = false := by
          rw [Bool.and_eq_false_iff]
          by_cases e : nm = []
          · exact .inr (decide_eq_false fun e2 => hkey ⟨e, e2⟩)
          · exact .inl (decide_eq_false e)
        rw [hh, show keyT 7 = false from rfl]
        rfl)
      have HKEY := Lib.hid hkey
      clear hz hkey fr fl f0 fm fh fc
      go_enter Tryz.func29, Tryz.ntmps29
      go_wp2_with fail
      all_goals first
        | exact absurd ⟨by assumption, by assumption⟩ HKEY.out
        | (go_ret; exact ⟨ret_bool HZ.out.symm, (Below.refl _ w).alloc (Nat.le_refl _) _⟩)
    obtain ⟨rfl, rfl⟩ := hkey
    have HZE : Hid (z = (er && el && e0 && em && eh && ec)) := Lib.hid (by rw [hz, show keyT 7 = false from rfl, show cntT 7 = false from rfl]; simp [Bool.and_assoc])
    clear hz
    cases er
    · have HZ : Hid (z = false) := Lib.hid (by rw [HZE.out]; simp)
      go_enter Tryz.func29, Tryz.ntmps29
      go_wp2_with fail
      go_ret
      exact ⟨ret_bool HZ.out.symm, (Below.refl _ w).alloc (Nat.le_refl _) _⟩
    · skip
      cases el
      · have HZ : Hid (z = false) := Lib.hid (by rw [HZE.out]; simp)
        go_enter Tryz.func29, Tryz.ntmps29
        go_wp2_with fail
        go_ret
        exact ⟨ret_bool HZ.out.symm, (Below.refl _ w).alloc (Nat.le_refl _) _⟩
      · skip
        cases e0
        · have HZ : Hid (z = false) := Lib.hid (by rw [HZE.out]; simp)
          go_enter Tryz.func29, Tryz.ntmps29
          go_wp2_with fail
          go_ret
          exact ⟨ret_bool HZ.out.symm, (Below.refl _ w).alloc (Nat.le_refl _) _⟩
        · skip
          cases em
          · have HZ : Hid (z = false) := Lib.hid (by rw [HZE.out]; simp)
            go_enter Tryz.func29, Tryz.ntmps29
            go_wp2_with fail
            go_ret
            exact ⟨ret_bool HZ.out.symm, (Below.refl _ w).alloc (Nat.le_refl _) _⟩
          · skip
            cases eh
            · have HZ : Hid (z = false) := Lib.hid (by rw [HZE.out]; simp)
              go_enter Tryz.func29, Tryz.ntmps29
              go_wp2_with fail
              go_ret
              exact ⟨ret_bool HZ.out.symm, (Below.refl _ w).alloc (Nat.le_refl _) _⟩
            · skip
              have HZ : Hid (z = ec) := Lib.hid (by rw [HZE.out]; simp)
              go_enter Tryz.func29, Tryz.ntmps29
              go_wp2_with fail
              go_ret
              exact ⟨ret_bool HZ.out.symm, (Below.refl _ w).alloc (Nat.le_refl _) _⟩
  · -- kind 8
    by_cases hkey : nm = [] ∧ t = 0
    rotate_left
    · have HZ : Hid (z = false) := Lib.hid (by
        rw [hz]
        have hh : (decide (nm = []) && decide (t = 0)) = false := by
          rw [Bool.and_eq_false_iff]
          by_cases e : nm = []
          · exact .inr (decide_eq_false fun e2 => hkey ⟨e, e2⟩)
          · exact .inl (decide_eq_false e)
        rw [hh, show keyT 8 = false from rfl]
        rfl)
      have HKEY := Lib.hid hkey
      clear hz hkey fr fl f0 fm fh fc
      go_enter Tryz.func29, Tryz.ntmps29
      go_wp2_with fail
      all_goals first
        | exact absurd ⟨by assumption, by assumption⟩ HKEY.out
        | (go_ret; exact ⟨ret_bool HZ.out.symm, (Below.refl _ w).alloc (Nat.le_refl _) _⟩)
    obtain ⟨rfl, rfl⟩ := hkey
    have HZE : Hid (z = (er && el && e0 && em && eh && ec)) := Lib.hid (by rw [hz, show keyT 8 = false from rfl, show cntT 8 = false from rfl]; simp [Bool.and_assoc])
    clear hz
    cases er
    · have HZ : Hid (z = false) := Lib.hid (by rw [HZE.out]; simp)
      go_enter Tryz.func29, Tryz.ntmps29
      go_wp2_with fail
      go_ret
      exact ⟨ret_bool HZ.out.symm, (Below.refl _ w).alloc (Nat.le_refl _) _⟩
    · skip
      cases el
      · have HZ : Hid (z = false) := Lib.hid (by rw [HZE.out]; simp)
        go_enter Tryz.func29, Tryz.ntmps29
        go_wp2_with fail
        go_ret
        exact ⟨ret_bool HZ.out.symm, (Below.refl _ w).alloc (Nat.le_refl _) _⟩
      · skip
        cases e0
        · have HZ : Hid (z = false) := Lib.hid (by rw [HZE.out]; simp)
          go_enter Tryz.func29, Tryz.ntmps29
          go_wp2_with fail
          go_ret
          exact ⟨ret_bool HZ.out.symm, (Below.refl _ w).alloc (Nat.le_refl _) _⟩
        · skip
          cases em
          · have HZ : Hid (z = false) := Lib.hid (by rw [HZE.out]; simp)
            go_enter Tryz.func29, Tryz.ntmps29
            go_wp2_with fail
            go_ret
            exact ⟨ret_bool HZ.out.symm, (Below.refl _ w).alloc (Nat.le_refl _) _⟩
          · skip
            cases eh
            · have HZ : Hid (z = false) := Lib.hid (by rw [HZE.out]; simp)
              go_enter Tryz.func29, Tryz.ntmps29
              go_wp2_with fail
              go_ret
              exact ⟨ret_bool HZ.out.symm, (Below.refl _ w).alloc (Nat.le_refl _) _⟩
            · skip
              have HZ : Hid (z = ec) := Lib.hid (by rw [HZE.out]; simp)
              go_enter Tryz.func29, Tryz.ntmps29
              go_wp2_with fail
              go_ret
              exact ⟨ret_bool HZ.out.symm, (Below.refl _ w).alloc (Nat.le_refl _) _⟩
end Go.Proofs.YtifmgmiaeoiidaaGreatDoor
