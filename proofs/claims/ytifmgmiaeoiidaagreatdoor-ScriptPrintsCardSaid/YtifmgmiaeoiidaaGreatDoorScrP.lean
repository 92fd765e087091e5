/-
  Plain laws of words (layer script): bytes as digits, texts as words. No program in sight. No condition.
-/
import Derived.Laws.BitsAllLaws
namespace Go.Scrp

/-- A byte of a plain word. -/
def plainB (c : UInt8) : Bool := decide (33 ≤ c.toNat) && decide (c.toNat ≤ 126)
def headOk : List UInt8 → Bool
  | [] => false
  | c :: _ => decide (c ≠ 61)
/-- Is a text its own word? -/
def plainW (s : List UInt8) : Bool := s.all plainB && headOk s
/-- A half byte's digit. -/
def digB (n : Nat) : UInt8 := if n < 10 then UInt8.ofNat (48 + n) else UInt8.ofNat (87 + n)
/-- A digit's half byte; 16: it is none. -/
def valN (c : UInt8) : Nat := if 48 ≤ c.toNat ∧ c.toNat ≤ 57 then c.toNat - 48 else if 97 ≤ c.toNat ∧ c.toNat ≤ 102 then c.toNat - 87 else 16
def hexB (c : UInt8) : List UInt8 := [digB (c.toNat / 16), digB (c.toNat % 16)]
def hexL : List UInt8 → List UInt8
  | [] => []
  | c :: r => digB (c.toNat / 16) :: digB (c.toNat % 16) :: hexL r
def unhexL : List UInt8 → Option (List UInt8)
  | [] => some []
  | [_] => none
  | x :: y :: r => if valN x < 16 ∧ valN y < 16 then (unhexL r).map (UInt8.ofNat (16 * valN x + valN y) :: ·) else none
def wordL (s : List UInt8) : List UInt8 := if plainW s then s else 61 :: hexL s
def unwordL (s : List UInt8) : Option (List UInt8) :=
  if plainW s then some s else
    match s with
    | [] => none
    | c :: r => if c = 61 then (match unhexL r with | some b => if plainW b then none else some b | none => none) else none

theorem hexL_append : ∀ (a b : List UInt8), hexL (a ++ b) = hexL a ++ hexL b
  | [], _ => rfl
  | c :: a, b => by simp only [List.cons_append, hexL, hexL_append a b]
theorem hexL_length : ∀ s : List UInt8, (hexL s).length = 2 * s.length
  | [] => rfl
  | c :: r => by
    simp only [hexL, List.length_cons, hexL_length r]
    omega
theorem hexL_one (c : UInt8) : hexL [c] = hexB c := rfl
theorem hexL_take {s : List UInt8} {k : Nat} (h : k < s.length) : hexL (s.take (k + 1)) = hexL (s.take k) ++ hexB s[k] := by
  rw [List.take_succ_eq_append_getElem h, hexL_append, hexL_one]
theorem val_dig_all : ∀ n : Fin 16, valN (digB n.val) = n.val := by decide +kernel
theorem val_dig {n : Nat} (h : n < 16) : valN (digB n) = n := val_dig_all ⟨n, h⟩
theorem unhex_hex : ∀ s : List UInt8, unhexL (hexL s) = some s
  | [] => rfl
  | c :: r => by
    have h1 := UInt8.toNat_lt c
    have e1 := val_dig (n := c.toNat / 16) (by omega)
    have e2 := val_dig (n := c.toNat % 16) (by omega)
    rw [hexL, unhexL, e1, e2, if_pos ⟨by omega, by omega⟩, unhex_hex r]
    have e3 : UInt8.ofNat (16 * (c.toNat / 16) + c.toNat % 16) = c := by
      apply UInt8.toNat_inj.1
      rw [UInt8.toNat_ofNat']
      omega
    rw [e3]
    rfl
theorem unword_word (s : List UInt8) : unwordL (wordL s) = some s := by
  unfold wordL
  by_cases h : plainW s = true
  · rw [if_pos h]
    unfold unwordL
    rw [if_pos h]
  · have h' : plainW s = false := by simpa using h
    have hp : plainW (61 :: hexL s) = false := by simp [plainW, headOk]
    rw [if_neg h]
    unfold unwordL
    rw [hp]
    simp only [if_true, unhex_hex, h', Bool.false_eq_true, if_false]
theorem unhex_odd : ∀ s : List UInt8, s.length % 2 = 1 → unhexL s = none
  | [], h => by simp at h
  | [_], _ => rfl
  | x :: y :: r, h => by
    rw [unhexL, unhex_odd r (by simp only [List.length_cons] at h; omega)]
    split <;> rfl
theorem unhex_len : ∀ (s b : List UInt8), unhexL s = some b → b.length ≤ s.length
  | [], b, h => by
    simp [unhexL] at h
    subst h
    simp
  | [_], b, h => by simp [unhexL] at h
  | x :: y :: r, b, h => by
    rw [unhexL] at h
    split at h
    · obtain ⟨d, hd, rfl⟩ := Option.map_eq_some_iff.1 h
      have := unhex_len r d hd
      simp
      omega
    · cases h
theorem drop_two {s : List UInt8} {k : Nat} (h : k + 1 < s.length) : s.drop k = s[k] :: s[k + 1] :: s.drop (k + 2) := by
  rw [List.drop_eq_getElem_cons (by omega), List.drop_eq_getElem_cons h]
theorem unhex_step {s done : List UInt8} {k : Nat} (hs : unhexL s = (unhexL (s.drop k)).map (done ++ ·)) (h : k + 1 < s.length) (h1 : valN s[k] < 16) (h2 : valN s[k + 1] < 16) :
    unhexL s = (unhexL (s.drop (k + 2))).map ((done ++ [UInt8.ofNat (16 * valN s[k] + valN s[k + 1])]) ++ ·) := by
  rw [hs, drop_two h, unhexL, if_pos ⟨h1, h2⟩, Option.map_map]
  congr 1
  funext x
  simp
theorem unhex_stop {s done : List UInt8} {k : Nat} (hs : unhexL s = (unhexL (s.drop k)).map (done ++ ·)) (h : k + 1 < s.length) (hn : ¬ (valN s[k] < 16 ∧ valN s[k + 1] < 16)) : unhexL s = none := by
  rw [hs, drop_two h, unhexL, if_neg hn]
  rfl
theorem unhex_end {s done : List UInt8} {k : Nat} (hs : unhexL s = (unhexL (s.drop k)).map (done ++ ·)) (h : s.length ≤ k) : unhexL s = some done := by
  rw [hs, List.drop_eq_nil_of_le h]
  simp [unhexL]
theorem word_len (s : List UInt8) : (wordL s).length ≤ 2 * s.length + 1 := by
  unfold wordL
  split
  · omega
  · simp only [List.length_cons, hexL_length]
    omega
theorem plain_bad {s : List UInt8} {k : Nat} (hk : k < s.length) (h : plainB s[k] = false) : plainW s = false := by
  unfold plainW
  rw [Bool.and_eq_false_iff]
  left
  rw [List.all_eq_false]
  exact ⟨s[k], List.getElem_mem hk, by simp [h]⟩
theorem plain_end {s : List UInt8} (h : ∀ k, (hk : k < s.length) → plainB s[k] = true) : plainW s = headOk s := by
  unfold plainW
  rw [show s.all plainB = true from by
    rw [List.all_eq_true]
    intro c hc
    obtain ⟨k, hk, rfl⟩ := List.mem_iff_getElem.1 hc
    exact h k hk, Bool.true_and]
theorem plainB_low {c : UInt8} (h : c.toNat < 33) : plainB c = false := by unfold plainB; simp; omega
theorem plainB_high {c : UInt8} (h : 126 < c.toNat) : plainB c = false := by unfold plainB; simp; omega
theorem plainB_yes {c : UInt8} (h : ¬ c.toNat < 33) (h2 : ¬ 126 < c.toNat) : plainB c = true := by unfold plainB; simp; omega
end Go.Scrp
