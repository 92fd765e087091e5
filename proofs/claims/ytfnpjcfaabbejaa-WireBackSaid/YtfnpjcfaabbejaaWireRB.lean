/-
  Plain law of names packed and got again (layer wire): what is read of packed ones. No program in sight. No condition.
-/
import Derived.Test.YtfnpjcfaabbejaaWireRA
import Derived.Test.YtfnpjcfaabbejaaWireW
import Derived.Test.YtfnpjcfaabbejaaWireZ
namespace Go.Wirep
open Go.Foldp

/-- Where a key lies, its suffix is read, and ends ahead of lim. -/
def KeyAt (b : List UInt8) (lim : Nat) (k : List UInt8) (to : Nat) : Prop :=
  ∃ l nx, l ≠ [] ∧ keyL l = k ∧ (∀ s ∈ l, labelE s = 0) ∧ Rd b to to (l.map lowL) nx ∧ nx ≤ lim
theorem KeyAt.lt {b : List UInt8} {lim to : Nat} {k : List UInt8} (h : KeyAt b lim k to) : to < lim := by
  obtain ⟨l, nx, _, _, _, hr, hn⟩ := h
  have := rd_lt hr
  omega
theorem KeyAt.append {b : List UInt8} {lim to : Nat} {k : List UInt8} (h : KeyAt b lim k to) (c : List UInt8) {lim2 : Nat} (hl : lim ≤ lim2) : KeyAt (b ++ c) lim2 k to := by
  obtain ⟨l, nx, h0, h1, h2, hr, hn⟩ := h
  exact ⟨l, nx, h0, h1, h2, rd_append c hr, Nat.le_trans hn hl⟩
/-- All suffixes that were laid are read. -/
def PInv (p : Packed) : Prop := ∀ k to, lookL k p.2 = some to → KeyAt p.1 p.1.length k to

theorem get_at (b c : List UInt8) (i : Nat) (h : i < c.length) : (b ++ c)[b.length + i]? = some c[i] := by
  rw [List.getElem?_append_right (by omega), Nat.add_sub_cancel_left, List.getElem?_eq_getElem h]
theorem putF_ext : ∀ (r : List (List UInt8)) (p : Packed), ∃ e, (putF r p).1 = p.1 ++ e
  | [], p => ⟨[0], by rw [putF_nil]⟩
  | s :: r, p => by
    rcases h : lookL (keyL (s :: r)) p.2 with _ | to
    · rw [putF_none h]
      obtain ⟨e, he⟩ := putF_ext r (putL p.1 s, (keyL (s :: r), p.1.length) :: p.2)
      refine ⟨[UInt8.ofNat s.length] ++ lowL s ++ e, ?_⟩
      rw [he]
      simp [putL]
    · rw [putF_some h]
      exact ⟨_, rfl⟩

/-- A name's rest, laid: read from where it is laid; the new keys are suffixes of it; the others stay. -/
theorem put_rd (b0 : List UInt8) : ∀ (r : List (List UInt8)) (p : Packed), b0.length ≤ 16384 → b0.length ≤ p.1.length → (∃ e, p.1 = b0 ++ e) → (∀ s ∈ r, labelE s = 0) → (∀ k to, lookL k p.2 = some to → k.length ≤ (keyL r).length → KeyAt b0 b0.length k to) →
    Rd (putF r p).1 p.1.length b0.length (r.map lowL) (putF r p).1.length ∧
    ∀ k to, lookL k (putF r p).2 = some to → lookL k p.2 = some to ∨ (p.1.length ≤ to ∧ ∃ l, l ≠ [] ∧ keyL l = k ∧ (∀ s ∈ l, labelE s = 0) ∧ Rd (putF r p).1 to b0.length (l.map lowL) (putF r p).1.length)
  | [], p, h0, hp, he, hl, hk => by
    rw [putF_nil]
    refine ⟨?_, fun k to h => .inl h⟩
    have h := Rd.fin (b := p.1 ++ [0]) (at_ := p.1.length) (begin_ := b0.length) (by
      simp)
    simpa using h
  | s :: r, p, h0, hp, he, hl, hk => by
    have hs := hl s (List.mem_cons_self ..)
    have hsl := labelE_len hs
    rcases h : lookL (keyL (s :: r)) p.2 with _ | to
    · rw [putF_none h]
      have hlen : (putL p.1 s).length = p.1.length + 1 + s.length := by
        simp [putL, lowL_length]
        omega
      obtain ⟨e0, he0⟩ := he
      have ih := put_rd b0 r (putL p.1 s, (keyL (s :: r), p.1.length) :: p.2) h0 (by simp only [hlen]; omega) ⟨e0 ++ [UInt8.ofNat s.length] ++ lowL s, by simp [putL, he0]⟩ (fun x hx => hl x (List.mem_cons_of_mem _ hx)) (fun k to hlk hkl => by
        have hlt := key_len (r := r) hs
        rw [lookL, if_neg (by rintro rfl; omega)] at hlk
        exact hk k to hlk (by omega))
      obtain ⟨e2, he2⟩ := putF_ext r (putL p.1 s, (keyL (s :: r), p.1.length) :: p.2)
      obtain ⟨P, hP⟩ : ∃ P, P = putF r (putL p.1 s, (keyL (s :: r), p.1.length) :: p.2) := ⟨_, rfl⟩
      rw [← hP] at ih he2 ⊢
      simp only [hlen] at ih
      have hbytes : P.1 = p.1 ++ ([UInt8.ofNat s.length] ++ lowL s ++ e2) := by
        rw [he2]
        simp [putL]
      have hrd : Rd P.1 p.1.length b0.length ((s :: r).map lowL) P.1.length := by
        rw [List.map_cons]
        have hll := lowL_length s
        refine Rd.lab (labelE_low hs) (lowL_lowL s) ?_ (fun i hi => ?_) (by rw [hll]; exact ih.1)
        · rw [hbytes, hll]
          simp
        · rw [hbytes]
          have := get_at p.1 ([UInt8.ofNat s.length] ++ lowL s ++ e2) (1 + i) (by simp; omega)
          rw [show p.1.length + 1 + i = p.1.length + (1 + i) by omega, this]
          congr 1
          have e3 : ([UInt8.ofNat s.length] ++ lowL s ++ e2)[1 + i]? = some (lowL s)[i] := by
            rw [List.getElem?_append_left (by simp; omega), List.getElem?_append_right (by simp)]
            simp
          rw [List.getElem?_eq_getElem (by simp; omega)] at e3
          exact Option.some.inj e3
      refine ⟨hrd, fun k to hlk => ?_⟩
      rcases ih.2 k to hlk with h1 | ⟨h1, l, h2, h3, h4, h5⟩
      · rw [lookL] at h1
        by_cases hkk : keyL (s :: r) = k
        · rw [if_pos hkk] at h1
          cases h1
          exact .inr ⟨Nat.le_refl _, s :: r, by simp, hkk, hl, hrd⟩
        · rw [if_neg hkk] at h1
          exact .inl h1
      · exact .inr ⟨by omega, l, h2, h3, h4, h5⟩
    · rw [putF_some h]
      have hka := hk _ _ h (Nat.le_refl _)
      have hto := hka.lt
      obtain ⟨l, nx, hne, h1, h2, hr, hn⟩ := hka
      obtain ⟨e0, he0⟩ := he
      obtain ⟨s', r', rfl⟩ : ∃ s' r', l = s' :: r' := by
        rcases l with _ | ⟨s', r'⟩
        · exact absurd rfl hne
        · exact ⟨s', r', rfl⟩
      have hmap := key_inj h2 hl h1
      rw [hmap] at hr
      refine ⟨?_, fun k to h => .inl h⟩
      have hx := get_at p.1 [UInt8.ofNat (192 + to / 256), UInt8.ofNat (to % 256)] 0 (by simp)
      have hy := get_at p.1 [UInt8.ofNat (192 + to / 256), UInt8.ofNat (to % 256)] 1 (by simp)
      simp only [Nat.add_zero, List.getElem_cons_zero, List.getElem_cons_succ] at hx hy
      have b1 : (UInt8.ofNat (192 + to / 256)).toNat = 192 + to / 256 := by
        rw [UInt8.toNat_ofNat']
        omega
      have b2 : (UInt8.ofNat (to % 256)).toNat = to % 256 := by
        rw [UInt8.toNat_ofNat']
        omega
      have hr2 : Rd (p.1 ++ [UInt8.ofNat (192 + to / 256), UInt8.ofNat (to % 256)]) to to ((s :: r).map lowL) nx := by
        rw [he0, List.append_assoc]
        exact rd_append _ hr
      have hfin := Rd.ptr (begin_ := b0.length) hx hy (by rw [b1]; omega) (show _ = to by rw [b1, b2]; omega) hto hr2 hn
      simpa using hfin

theorem pinv_put {l : List (List UInt8)} {p : Packed} (h : PInv p) (hl : ∀ s ∈ l, labelE s = 0) (h0 : p.1.length ≤ 16384) : PInv (putF l p) ∧ Rd (putF l p).1 p.1.length p.1.length (l.map lowL) (putF l p).1.length := by
  obtain ⟨h1, h2⟩ := put_rd p.1 l p h0 (Nat.le_refl _) ⟨[], by simp⟩ hl (fun k to hlk _ => h k to hlk)
  refine ⟨fun k to hlk => ?_, h1⟩
  obtain ⟨e, he⟩ := putF_ext l p
  rcases h2 k to hlk with h3 | ⟨h3, l', h4, h5, h6, h7⟩
  · rw [he]
    exact (h k to h3).append e (by simp)
  · exact ⟨l', _, h4, h5, h6, rd_begin h7 h3, Nat.le_refl _⟩

/-- Names in bytes, one behind the other from a place on, each where it is said. -/
def Chain (b : List UInt8) : Nat → List (List (List UInt8)) → List Nat → Prop
  | start, [], [] => start = b.length
  | start, l :: r, q :: qs => q = start ∧ checkL l = 0 ∧ ∃ nx, Rd b start start (l.map lowL) nx ∧ nx ≤ start + wireL l ∧ Chain b nx r qs
  | _, _, _ => False
theorem checkL_labels {l : List (List UInt8)} (h : checkL l = 0) : ∀ s ∈ l, labelE s = 0 := by
  unfold checkL at h
  split at h
  · rename_i ha
    rw [List.all_eq_true] at ha
    intro s hs
    simpa using ha s hs
  · cases h
theorem packG_ext : ∀ (ll : List (List (List UInt8))) (p : Packed) (ps : List Nat) (b : List UInt8) (qs : List Nat), packG ll p ps = (b, qs, 0) → ∃ e, b = p.1 ++ e
  | [], p, ps, b, qs, h => by
    rw [packG] at h
    cases h
    exact ⟨[], by simp⟩
  | l :: r, p, ps, b, qs, h => by
    rw [packG] at h
    split at h
    · obtain ⟨e, he⟩ := packG_ext r _ _ _ _ h
      obtain ⟨e2, he2⟩ := putF_ext l p
      exact ⟨e2 ++ e, by rw [he, he2, List.append_assoc]⟩
    · rename_i hc
      simp only [Prod.mk.injEq] at h
      exact absurd h.2.2 hc
theorem packG_chain : ∀ (ll : List (List (List UInt8))) (p : Packed) (ps : List Nat) (b : List UInt8) (qs : List Nat), PInv p → p.1.length + 255 * ll.length ≤ 16384 → packG ll p ps = (b, qs, 0) →
    ∃ ts, qs = ps ++ ts ∧ Chain b p.1.length ll ts ∧ b.length ≤ 16384
  | [], p, ps, b, qs, hi, hr, h => by
    rw [packG] at h
    simp only [Prod.mk.injEq] at h
    obtain ⟨rfl, rfl, _⟩ := h
    exact ⟨[], by simp, rfl, by simpa using hr⟩
  | l :: r, p, ps, b, qs, hi, hr, h => by
    rw [packG] at h
    split at h
    · rename_i hc
      have hw := checkL_wire hc
      simp only [List.length_cons] at hr
      obtain ⟨h1, h2⟩ := pinv_put hi (checkL_labels hc) (by omega)
      have hlen := putF_len l p
      obtain ⟨ts, e1, e2, e3⟩ := packG_chain r _ _ _ _ h1 (by omega) h
      obtain ⟨e, he⟩ := packG_ext r _ _ _ _ h
      refine ⟨p.1.length :: ts, by rw [e1]; simp, ⟨rfl, hc, _, ?_, hlen.2, e2⟩, e3⟩
      rw [he]
      exact rd_append e h2
    · rename_i hc
      simp only [Prod.mk.injEq] at h
      exact absurd h.2.2 hc
theorem packL_chain {ll : List (List (List UInt8))} {b : List UInt8} {qs : List Nat} (h : packL ll = (b, qs, 0)) : Chain b 0 ll qs ∧ b.length ≤ 16384 ∧ ll.length ≤ 64 := by
  unfold packL at h
  split at h
  · simp only [Prod.mk.injEq] at h
    omega
  · obtain ⟨ts, e1, e2, e3⟩ := packG_chain ll ([], []) [] b qs (fun k to hk => by simp [lookL] at hk) (by simp; omega) h
    rw [List.nil_append] at e1
    subst e1
    exact ⟨e2, e3, by omega⟩
theorem packG_err : ∀ (ll : List (List (List UInt8))) (p : Packed) (ps : List Nat), (packG ll p ps).2.2 ≠ 0 → (packG ll p ps).1 = []
  | [], p, ps, h => by
    rw [packG] at h
    exact absurd rfl h
  | l :: r, p, ps, h => by
    rw [packG] at h ⊢
    split
    · rename_i hc
      rw [if_pos hc] at h
      exact packG_err r _ _ h
    · rfl
theorem packL_err {ll : List (List (List UInt8))} (h : (packL ll).2.2 ≠ 0) : (packL ll).1 = [] := by
  unfold packL at h ⊢
  split
  · rfl
  · rename_i hc
    rw [if_neg hc] at h
    exact packG_err _ _ _ h

theorem wireL_low : ∀ l : List (List UInt8), wireL (l.map lowL) = wireL l
  | [] => rfl
  | s :: r => by simp only [List.map_cons, wireL, lowL_length, wireL_low r]
/-- Name i of a chain. -/
theorem Chain.at {b : List UInt8} : ∀ {ll : List (List (List UInt8))} {qs : List Nat} {start : Nat}, Chain b start ll qs → qs.length = ll.length ∧ ∀ i, (hi : i < ll.length) → ∃ q nx, qs[i]? = some q ∧ checkL ll[i] = 0 ∧ Rd b q q (ll[i].map lowL) nx ∧ nx ≤ q + wireL ll[i] ∧ start ≤ q ∧
    (i + 1 < ll.length → qs[i + 1]? = some nx) ∧ (i + 1 = ll.length → nx = b.length)
  | [], [], start, h => ⟨rfl, fun i hi => by simp at hi⟩
  | [], _ :: _, _, h => False.elim h
  | _ :: _, [], _, h => False.elim h
  | l :: r, q :: qs, start, h => by
    obtain ⟨rfl, hc, nx, hr, hn, hch⟩ := h
    obtain ⟨h1, h2⟩ := Chain.at hch
    refine ⟨by simp [h1], fun i hi => ?_⟩
    have hlt := rd_lt hr
    rcases i with _ | i
    · refine ⟨q, nx, rfl, hc, hr, hn, Nat.le_refl _, fun hlt2 => ?_, fun he => ?_⟩
      · rcases r with _ | ⟨l2, r2⟩
        · simp at hlt2
        · rcases qs with _ | ⟨q2, qs2⟩
          · simp at h1
          · obtain ⟨rfl, _⟩ := hch
            rfl
      · rcases r with _ | ⟨l2, r2⟩
        · rcases qs with _ | ⟨q2, qs2⟩
          · exact hch
          · simp at h1
        · simp at he
    · simp only [List.length_cons, Nat.add_lt_add_iff_right] at hi
      obtain ⟨q', nx', e1, e2, e3, e4, e5, e6, e7⟩ := h2 i hi
      refine ⟨q', nx', by simpa using e1, by simpa using e2, by simpa using e3, by simpa using e4, by omega, fun hlt2 => ?_, fun he => ?_⟩
      · have := e6 (by simpa using hlt2)
        simpa using this
      · exact e7 (by simpa using he)
/-- All names of a chain are got. -/
theorem Chain.all {b : List UInt8} : ∀ {ll : List (List (List UInt8))} {qs : List Nat} {start : Nat} (out : List (List (List UInt8))), Chain b start ll qs → allG b (b.length - start) start out = (out ++ ll.map (List.map lowL), 0)
  | [], [], start, out, h => by
    rw [allG_end (by rw [show start = b.length from h]; exact Nat.le_refl _)]
    simp
  | [], _ :: _, _, _, h => False.elim h
  | _ :: _, [], _, _, h => False.elim h
  | l :: r, q :: qs, start, out, h => by
    obtain ⟨rfl, hc, nx, hr, hn, hch⟩ := h
    have hlt := rd_lt hr
    have hw : wireL (l.map lowL) ≤ 255 := by rw [wireL_low]; exact checkL_wire hc
    have hg : getA b (q : Int) = (l.map lowL, nx, 0) := by
      rw [getA, if_pos (by omega)]
      have := get_of_rd hr 0 [] (by rw [List.nil_append]; exact hw)
      simpa using this
    rw [allG_on (by omega) (by rw [hg]), hg]
    simp only
    rw [Chain.all _ hch]
    simp
end Go.Wirep
