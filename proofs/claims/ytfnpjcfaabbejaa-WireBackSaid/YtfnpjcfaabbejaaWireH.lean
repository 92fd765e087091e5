/-
  The walks of wire's laid and label: bytes laid behind others. Fewer than 2^40 bytes.
-/
import Derived.Test.YtfnpjcfaabbejaaWireG
namespace Go.Proofs.Ytfnpjcfaabbejaa
open Go.RowKit Go.Foldp Go.Colm Go.Wirep
set_option linter.unusedVariables false

/-- All is kept but for rows of bytes from block B on. -/
structure KeptU (B : Nat) (w w' : World) : Prop where
  os : w'.os = w.os
  tape : w'.tape = w.tape
  output : w'.output = w.output
  size : w.heap.size ≤ w'.heap.size
  block : ∀ k, k < w.heap.size → (k < B ∨ ¬ ∃ cs fz, w.heap[k]? = some (.cells cs 5 fz)) → w'.heap[k]? = w.heap[k]?
section
variable {B : Nat} {w w1 w2 : World}
theorem KeptU.refl (B : Nat) (w : World) : KeptU B w w := ⟨rfl, rfl, rfl, Nat.le_refl _, fun _ _ _ => rfl⟩
theorem KeptU.trans (h : KeptU B w w1) (k : KeptU B w1 w2) : KeptU B w w2 :=
  ⟨k.os.trans h.os, k.tape.trans h.tape, k.output.trans h.output, Nat.le_trans h.size k.size, fun i hi hn => by
    have e := h.block i hi hn
    refine (k.block i (Nat.lt_of_lt_of_le hi h.size) ?_).trans e
    rw [e]
    exact hn⟩
theorem KeptU.kept {S : Nat → Prop} (h : Kept S w w1) (hs : ∀ k, S k → k < w.heap.size → B ≤ k ∧ ∃ cs fz, w.heap[k]? = some (.cells cs 5 fz)) : KeptU B w w1 :=
  ⟨h.os, h.tape, h.output, h.size, fun k hk hn => h.block k hk fun e => by
    obtain ⟨a, b⟩ := hs k e hk
    rcases hn with hn | hn
    · omega
    · exact hn b⟩
theorem KeptU.below (h : Below w.heap.size w w1) : KeptU B w w1 := KeptU.kept (Kept.below h (fun _ => False)) fun _ h _ => h.elim
theorem KeptU.grown {v : Value} {n : Nat} {xs : List Value} (h : w.ownsRow B 5 1 v n xs) (hg : w.grownBy w1 v.ownBlock) : KeptU B w w1 :=
  KeptU.kept (Kept.grown hg) fun k hk _ => by
    rcases h.2 with ⟨rfl, _⟩ | ⟨g, cap, cur, rfl, hb, hh, _⟩
    · simp [Value.ownBlock] at hk
    · have e : g = k := by simpa [Value.ownBlock] using hk
      subst e
      exact ⟨hb, _, _, hh⟩
theorem KeptU.whole {g : Nat} {t : TypeId} {cs : Array Value} (h : KeptU B w w1) (hg : Whole w g t cs) (ht : t ≠ 5) : Whole w1 g t cs :=
  (h.block g hg.lt (.inr (by
    rintro ⟨cs', fz, e⟩
    unfold Whole at hg
    rw [hg] at e
    cases e
    exact ht rfl))).trans hg
theorem KeptU.to_below (h : KeptU B w w1) (hB : B ≤ w.heap.size) : Below B w w1 := ⟨h.os, h.tape, h.output, h.size, fun k hk => h.block k (by omega) (.inl hk)⟩
end
theorem bytesV_append (a b : List UInt8) : bytesV (a ++ b) = bytesV a ++ bytesV b := by simp [bytesV]
theorem u8_one (l : List UInt8) : ∀ u ∈ bytesV l, u.oneCell' = true := by
  intro u hu
  obtain ⟨n, _, rfl⟩ := List.mem_map.1 hu
  rfl
theorem strCells_list (s : List UInt8) : Lib.strCells ⟨s.toArray⟩ = bytesV s := by
  simp [Lib.strCells, bytesV]

set_option maxHeartbeats 1000000 in
theorem laid_any (B : Nat) (v : Value) (bs : List UInt8) (ad : Addr) (m c : Nat) (ns : List UInt8) (w : World) (hown : w.ownsRow B 5 1 v bs.length (bytesV bs)) (hns : ns.length = m) (hrow : ∀ j u, (bytesV ns)[j]? = some u → w.cell? (ad.add j) = some u) (hB : B ≤ w.heap.size) (hl : bs.length + m < 1099511627776) :
    Calls Try.prog 27 #[v, .slice (some ad) m c] w fun e w' => ∃ A' c', e = .returned (.slice A' (bs ++ ns).length c') ∧ w'.ownsRow B 5 1 (.slice A' (bs ++ ns).length c') (bs ++ ns).length (bytesV (bs ++ ns)) ∧ KeptU B w w' := by
  obtain ⟨i0, hi, hz0, hz1, hz2⟩ := info_parts byte_info
  obtain ⟨Av, cv, hv, _⟩ := own_row hown
  subst hns
  have HOWN := Lib.hid hown
  have HROW := Lib.hid hrow
  clear hown hrow
  subst hv
  go_enter Try.func27, Try.ntmps27
  go_wp2_with (at_builtin; refine wpList_append_own _ rfl _ _ 22 rfl B 5 i0 (.int .u8 0) 1 1 Try.underlying22 hi hz0 hz1 hz2 rfl (by decide) (.slice Av bs.length cv) bs.length (bytesV bs) rfl HOWN.out ad ns.length c (bytesV ns) rfl (by rw [bytesV_length, Nat.mul_one]) HROW.out (u8_one _) (by unfold maxLen; omega) (by omega) hB ?_; intro v2 w2 hown2 hg2 _; have hk2 : KeptU B w w2 := KeptU.grown HOWN.out hg2; rw [← bytesV_append, ← List.length_append] at hown2; obtain ⟨A2, c2, hv2, _⟩ := own_row hown2; have HOWN2 := Lib.hid hown2; have HK2 := Lib.hid hk2; subst hv2; clear hown2 hg2 hk2)
  go_ret
  refine ⟨A2, c2, ?_, HOWN2.out, HK2.out⟩
  rw [List.length_append]
  rfl

set_option maxRecDepth 100000 in
set_option maxHeartbeats 2000000 in
theorem labelP_any (B : Nat) (v : Value) (bs s : List UInt8) (w : World) (hown : w.ownsRow B 5 1 v bs.length (bytesV bs)) (hB : B ≤ w.heap.size) (hs : s.length < 256) (hl : bs.length < 549755813888) :
    Calls Try.prog 26 #[v, .string ⟨s.toArray⟩] w fun e w' => ∃ A' c', e = .returned (.slice A' ((bs ++ [UInt8.ofNat s.length]) ++ lowL s).length c') ∧
      w'.ownsRow B 5 1 (.slice A' ((bs ++ [UInt8.ofNat s.length]) ++ lowL s).length c') ((bs ++ [UInt8.ofNat s.length]) ++ lowL s).length (bytesV ((bs ++ [UInt8.ofNat s.length]) ++ lowL s)) ∧ KeptU B w w' := by
  obtain ⟨i0, hi, hz0, hz1, hz2⟩ := info_parts byte_info
  obtain ⟨Av, cv, hv, _⟩ := own_row hown
  have hsz := str_size s
  have hlow := fun W => lower_any ⟨s.toArray⟩ W (by rw [hsz]; omega)
  have hbt : ((UInt8.ofNat s.length).toNat : Int) = (s.length : Int) := by
    simp only [UInt8.toNat_ofNat']
    omega
  have hlaid := laid_any B v bs ⟨w.heap.size, 0, none⟩ 1 1 [UInt8.ofNat s.length] (w.alloc (.cells #[.int .u8 (s.length : Int)] 5)) (hown.alloc _) rfl (by
    have h := cell_one_new w (.int .u8 (s.length : Int)) 5
    simp only [bytesV, List.map_cons, List.map_nil, hbt]
    exact h) (by simp; omega) (by omega)
  have hk0 : KeptU B w (w.alloc (.cells #[.int .u8 (s.length : Int)] 5)) := KeptU.below ((Below.refl _ w).alloc (Nat.le_refl _) _)
  have hll := lowL_length s
  obtain ⟨b1, hb1⟩ : ∃ b1, b1 = bs ++ [UInt8.ofNat s.length] := ⟨_, rfl⟩
  have hb1l : b1.length = bs.length + 1 := by rw [hb1]; simp
  rw [← hb1] at hlaid ⊢
  obtain ⟨ls, hls⟩ : ∃ ls, ls = lowL s := ⟨_, rfl⟩
  have hlow2 : ∀ W, Calls Try.prog 30 #[.string ⟨s.toArray⟩] W fun e w' => e = .returned (.string ⟨ls.toArray⟩) ∧ Below W.heap.size W w' := fun W => by
    rw [hls]
    exact hlow W
  rw [← hls] at hll ⊢
  have hlsz := str_size ls
  obtain ⟨sv, hsv⟩ : ∃ sv, sv = ByteArray.mk s.toArray := ⟨_, rfl⟩
  obtain ⟨lv, hlv⟩ : ∃ lv, lv = ByteArray.mk ls.toArray := ⟨_, rfl⟩
  have hcl := strCells_list ls
  rw [← hsv] at hsz ⊢
  rw [← hlv] at hlsz hcl
  simp only [← hsv, ← hlv] at hlow2
  have hszi : (sv.size : Int) = s.length := by omega
  have hsz2 : ((s.length : Nat) : Int) < 256 := by omega
  have hbl : b1.length < 549755813890 := by omega
  have HLL := Lib.hid hll
  have hlsl : lv.size < 256 := by omega
  have HLSZ := Lib.hid hlsz
  have HLAID := Lib.hid hlaid
  have HLOW := Lib.hid hlow2
  have HK0 := Lib.hid hk0
  have HCL := Lib.hid hcl
  subst hv
  clear hlaid hlow hlow2 hk0 hcl hown hb1 hls hsv hlv hbt hb1l hll hlsz
  go_enter Try.func26, Try.ntmps26
  go_wp2_with fail
  refine HLAID.out.mono ?_
  rintro e w1 ⟨A1, c1, rfl, hown1, hk1⟩
  have HOWN1 := Lib.hid hown1
  have HK1 := Lib.hid hk1
  have hB1 : B ≤ w1.heap.size := Nat.le_trans hB (HK0.out.trans hk1).size
  clear hown1 hk1
  go_wp2_with fail
  refine (HLOW.out _).mono ?_
  rintro e w2 ⟨rfl, hb2⟩
  have HOWN2 := Lib.hid (own_kept (Kept.below hb2 (fun _ => False)) HOWN1.out fun _ _ => id)
  have HK2 := Lib.hid (KeptU.below (B := B) hb2)
  have hB2 : B ≤ w2.heap.size := Nat.le_trans hB1 hb2.size
  clear hb2
  go_wp2_with (at_builtin; refine Lib.wpList_append_own_string _ rfl _ _ 22 9 rfl B 5 i0 Try.underlying22 Try.underlying9 hi hz0 hz1 hz2 (.slice A1 b1.length c1) b1.length (bytesV b1) rfl HOWN2.out lv rfl (by unfold maxLen; omega) (by omega) hB2 ?_; intro v3 w3 hown3 hg3 _; have hk3 : KeptU B w2 w3 := KeptU.grown HOWN2.out hg3; rw [HCL.out, ← bytesV_append, HLSZ.out, ← List.length_append] at hown3; obtain ⟨A3, c3, hv3, _⟩ := own_row hown3; have HOWN3 := Lib.hid hown3; have HK3 := Lib.hid hk3; subst hv3; clear hown3 hg3 hk3)
  go_ret
  refine ⟨A3, c3, ?_, HOWN3.out, ((HK0.out.trans HK1.out).trans HK2.out).trans HK3.out⟩
  rw [List.length_append]
  rfl

end Go.Proofs.Ytfnpjcfaabbejaa
