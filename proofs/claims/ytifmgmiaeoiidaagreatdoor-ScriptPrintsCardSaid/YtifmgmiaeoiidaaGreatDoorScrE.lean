/-
  The walks of layer script's Word and Unword and of the reference's. Texts of at most 2^40 bytes.
-/
import Derived.Test.YtifmgmiaeoiidaaGreatDoorScrD
namespace Go.Scrp
theorem unword_plain {s : List UInt8} (h : plainW s = true) : unwordL s = some s := by
  unfold unwordL
  rw [if_pos h]
theorem unword_head {s : List UInt8} (h : plainW s = false) (h2 : s = [] ∨ ∃ c r, s = c :: r ∧ c ≠ 61) : unwordL s = none := by
  unfold unwordL
  rw [h, if_neg (by simp)]
  rcases h2 with rfl | ⟨c, r, rfl, hc⟩
  · rfl
  · simp only [hc, if_false]
theorem unword_hex {s : List UInt8} (h : plainW s = false) (h2 : 0 < s.length) (hc : s[0] = 61) : unwordL s = (match unhexL (s.drop 1) with | some b => if plainW b then none else some b | none => none) := by
  rcases s with _ | ⟨c, r⟩
  · simp at h2
  · simp at hc
    subst hc
    unfold unwordL
    rw [h, if_neg (by simp)]
    simp only [if_true, List.drop_succ_cons, List.drop_zero]
    cases unhexL r <;> rfl
end Go.Scrp
namespace Go.Proofs.YtifmgmiaeoiidaaGreatDoor
open Go.RowKit Go.Colm Go.Scrp
set_option linter.unusedVariables false

set_option maxRecDepth 100000 in
set_option maxHeartbeats 2000000 in
theorem word_any (s : ByteArray) (w : World) (hs : s.size ≤ 549755813888) :
    Calls Tryz.prog 10 #[.string s] w fun e w' => e = .returned (.string ⟨(wordL s.data.toList).toArray⟩) ∧ Below w.heap.size w w' := by
  have hsl := str_len s
  have hp := fun W => plain_any s W (by omega)
  have hcv := fun (W : World) => Lib.run_convert_string_bytes (P := Tryz.prog) W 9 44 5 s Tryz.underlying9 Tryz.underlying44 Tryz.underlying5
  have hhx : ∀ W, Calls Tryz.prog 23 #[.slice (some ⟨W.heap.size, 0, none⟩) s.size (grownCap W s.size 0 5)] (Lib.bytesWorld W 5 s) fun e w' => e = .returned (.string ⟨(hexL s.data.toList).toArray⟩) ∧ Below W.heap.size W w' := fun W => by
    have := hex_any s.data.toList (some ⟨W.heap.size, 0, none⟩) (grownCap W s.size 0 5) (Lib.bytesWorld W 5 s) (RowV.bytesWorld W 5 s) (by omega)
    rw [hsl] at this
    exact this.mono fun e w' ⟨a, b⟩ => ⟨a, below_chain (below_bytesWorld W 5 s) b⟩
  have HHX := Lib.hid hhx
  by_cases h : plainW s.data.toList = true
  · rw [h] at hp
    have HP := Lib.hid hp
    have HE : Hid (⟨(wordL s.data.toList).toArray⟩ = s) := Lib.hid (by unfold wordL; rw [if_pos h])
    clear hp hhx h
    go_enter Tryz.func10, Tryz.ntmps10
    go_wp2_with fail
    refine (HP.out _).mono ?_
    rintro e w1 ⟨rfl, hb1⟩
    go_wp2_with fail
    go_ret
    exact ⟨congrArg (fun v => Ending.returned (.string v)) HE.out.symm, hb1⟩
  · have h' : plainW s.data.toList = false := by simpa using h
    rw [h'] at hp
    have HP := Lib.hid hp
    have HE : Hid ((⟨#[61]⟩ : ByteArray) ++ ⟨(hexL s.data.toList).toArray⟩ = ⟨(wordL s.data.toList).toArray⟩) := Lib.hid (by
      unfold wordL
      rw [if_neg h]
      exact str_append [61] (hexL s.data.toList))
    have hsx := str_size (hexL s.data.toList)
    rw [hexL_length, hsl] at hsx
    obtain ⟨x, hx⟩ : ∃ x, x = ByteArray.mk (hexL s.data.toList).toArray := ⟨_, rfl⟩
    rw [← hx] at HHX HE hsx
    clear hp hhx h h' hx
    go_enter Tryz.func10, Tryz.ntmps10
    go_wp2_with fail
    refine (HP.out _).mono ?_
    rintro e w1 ⟨rfl, hb1⟩
    go_wp2_with fail
    refine (HHX.out _).mono ?_
    rintro e w2 ⟨rfl, hb2⟩
    go_wp2_with fail
    go_ret
    exact ⟨congrArg (fun v => Ending.returned (.string v)) HE.out, below_chain hb1 hb2⟩

set_option maxRecDepth 100000 in
set_option maxHeartbeats 2000000 in
theorem rword_any (s : ByteArray) (w : World) (hs : s.size ≤ 549755813888) :
    Calls Tryz.prog 11 #[.string s] w fun e w' => e = .returned (.string ⟨(wordL s.data.toList).toArray⟩) ∧ Below w.heap.size w w' := by
  have hsl := str_len s
  have hp := fun W => rplain_any s W (by omega)
  have hhx := fun W => rhex_any s W (by omega)
  by_cases h : plainW s.data.toList = true
  · rw [h] at hp
    have HP := Lib.hid hp
    have HE : Hid (⟨(wordL s.data.toList).toArray⟩ = s) := Lib.hid (by unfold wordL; rw [if_pos h])
    clear hp hhx h
    go_enter Tryz.func11, Tryz.ntmps11
    go_wp2_with fail
    refine (HP.out _).mono ?_
    rintro e w1 ⟨rfl, rfl⟩
    go_wp2_with fail
    go_ret
    exact ⟨congrArg (fun v => Ending.returned (.string v)) HE.out.symm, Below.refl _ _⟩
  · have h' : plainW s.data.toList = false := by simpa using h
    rw [h'] at hp
    have HP := Lib.hid hp
    have HE : Hid ((⟨#[61]⟩ : ByteArray) ++ ⟨(hexL s.data.toList).toArray⟩ = ⟨(wordL s.data.toList).toArray⟩) := Lib.hid (by
      unfold wordL
      rw [if_neg h]
      exact str_append [61] (hexL s.data.toList))
    have hsx := str_size (hexL s.data.toList)
    rw [hexL_length, hsl] at hsx
    obtain ⟨x, hx⟩ : ∃ x, x = ByteArray.mk (hexL s.data.toList).toArray := ⟨_, rfl⟩
    rw [← hx] at HE hsx
    simp only [← hx] at hhx
    have HHX := Lib.hid hhx
    clear hp hhx h h' hx
    go_enter Tryz.func11, Tryz.ntmps11
    go_wp2_with fail
    refine (HP.out _).mono ?_
    rintro e w1 ⟨rfl, rfl⟩
    go_wp2_with fail
    refine (HHX.out _).mono ?_
    rintro e w2 ⟨rfl, hb2⟩
    go_wp2_with fail
    go_ret
    exact ⟨congrArg (fun v => Ending.returned (.string v)) HE.out, hb2⟩

/-- What a word's text is. -/
def UnwordIt (w : World) (s : List UInt8) (e : Ending) (w' : World) : Prop :=
  (unwordL s = none → e = .returned (.tuple #[.string ⟨#[]⟩, .bool false])) ∧ (∀ b, unwordL s = some b → e = .returned (.tuple #[.string ⟨b.toArray⟩, .bool true])) ∧ Below w.heap.size w w'
theorem UnwordIt.no {w w' : World} {s : List UInt8} (h : unwordL s = none) (hb : Below w.heap.size w w') : UnwordIt w s (.returned (.tuple #[.string ⟨#[]⟩, .bool false])) w' :=
  ⟨fun _ => rfl, fun b hb => (by rw [h] at hb; cases hb), hb⟩
theorem UnwordIt.yes {w w' : World} {s : List UInt8} {t : ByteArray} (h : unwordL s = some t.data.toList) (hb : Below w.heap.size w w') : UnwordIt w s (.returned (.tuple #[.string t, .bool true])) w' :=
  ⟨fun h2 => (by rw [h] at h2; cases h2), fun b2 h2 => (by rw [h] at h2; cases h2; rfl), hb⟩
theorem head_of {s : ByteArray} (h0 : 0 < s.size) (h : s[0].toNat ≠ 61) : ∃ c r, s.data.toList = c :: r ∧ c ≠ 61 := by
  have e := str_get s 0 h0
  rcases hl : s.data.toList with _ | ⟨c, r⟩
  · have h2 := str_len s
    rw [hl, List.length_nil] at h2
    omega
  · refine ⟨c, r, rfl, ?_⟩
    rintro rfl
    apply h
    rw [← e]
    simp [hl]

set_option maxRecDepth 100000 in
set_option maxHeartbeats 4000000 in
theorem unword_any (s : ByteArray) (w : World) (hs : s.size ≤ 549755813888) :
    Calls Tryz.prog 8 #[.string s] w (UnwordIt w s.data.toList) := by
  have hsl := str_len s
  have hp := fun W => plain_any s W (by omega)
  by_cases h : plainW s.data.toList = true
  · rw [h] at hp
    have HP := Lib.hid hp
    have HE := Lib.hid (unword_plain h)
    clear hp h
    go_enter Tryz.func8, Tryz.ntmps8
    go_wp2_with fail
    refine (HP.out _).mono ?_
    rintro e w1 ⟨rfl, hb1⟩
    go_wp2_with fail
    go_ret2
    exact UnwordIt.yes HE.out hb1
  · have h' : plainW s.data.toList = false := by simpa using h
    rw [h'] at hp
    have HP := Lib.hid hp
    by_cases h0 : 0 < s.size
    · have t0 := full_beq h0
      by_cases h61 : s[0].toNat = 61
      · have t1 : ((s[0].toNat : Int) != 61) = false := by rw [h61]; rfl
        have hc : s.data.toList[0]'(by omega) = 61 := by
          rw [str_get s 0 h0]
          exact UInt8.toNat_inj.1 (by rw [h61]; rfl)
        have hun := unword_hex h' (by omega) hc
        have hux := fun W => unhex_any (s.extract 1 s.size) W (by simp; omega)
        have hxd : (s.extract 1 s.size).data.toList = s.data.toList.drop 1 := Lib.extract_to_end s 1
        rw [hxd] at hux
        have HUX := Lib.hid hux
        rcases hu : unhexL (s.data.toList.drop 1) with _ | b
        · rw [hu] at hun
          have HN := Lib.hid hun
          have HU := Lib.hid hu
          clear hun hux hxd hu hc hp h h' h61
          go_enter Tryz.func8, Tryz.ntmps8
          go_wp2_with fail
          refine (HP.out _).mono ?_
          rintro e w1 ⟨rfl, hb1⟩
          go_wp2_with fail
          refine (HUX.out _).mono ?_
          rintro e w2 ⟨he, _, hb2⟩
          rw [he HU.out]
          clear he
          go_wp2_with fail
          go_ret2
          exact UnwordIt.no HN.out (below_chain hb1 hb2)
        · rw [hu] at hun
          have hlb := unhex_len _ _ hu
          rw [List.length_drop, hsl] at hlb
          have hpb := fun W => plain_any ⟨b.toArray⟩ W (by rw [str_size]; omega)
          have HU := Lib.hid hu
          by_cases hpl : plainW b = true
          · have HN : Hid (unwordL s.data.toList = none) := Lib.hid (by rw [hun]; simp [hpl])
            have HPB : Hid (∀ W, Calls Tryz.prog 19 #[.string ⟨b.toArray⟩] W fun e w' => e = .returned (.bool true) ∧ Below W.heap.size W w') := Lib.hid (fun W => by simpa [hpl] using hpb W)
            clear hun hux hxd hu hc hp h h' h61 hpb hpl
            go_enter Tryz.func8, Tryz.ntmps8
            go_wp2_with fail
            refine (HP.out _).mono ?_
            rintro e w1 ⟨rfl, hb1⟩
            go_wp2_with fail
            refine (HUX.out _).mono ?_
            rintro e w2 ⟨_, he, hb2⟩
            obtain ⟨A, c, rfl, hown⟩ := he b HU.out
            obtain ⟨A', c', e', _, hsp, hrow⟩ := own_more hown
            cases e'
            have hrun := run_text (P := Tryz.prog) Tryz.underlying44 Tryz.underlying5 w2 A b c hrow hsp 9 Tryz.underlying9
            clear he hown hrow
            go_wp2_with fail
            refine (HPB.out _).mono ?_
            rintro e w3 ⟨rfl, hb3⟩
            clear hrun
            go_wp2_with fail
            go_ret2
            exact UnwordIt.no HN.out (below_chain (below_chain hb1 hb2) hb3)
          · have hpl' : plainW b = false := by simpa using hpl
            have HN : Hid (unwordL s.data.toList = some b) := Lib.hid (by rw [hun]; simp [hpl'])
            have HPB : Hid (∀ W, Calls Tryz.prog 19 #[.string ⟨b.toArray⟩] W fun e w' => e = .returned (.bool false) ∧ Below W.heap.size W w') := Lib.hid (fun W => by simpa [hpl'] using hpb W)
            clear hun hux hxd hu hc hp h h' h61 hpb hpl hpl'
            go_enter Tryz.func8, Tryz.ntmps8
            go_wp2_with fail
            refine (HP.out _).mono ?_
            rintro e w1 ⟨rfl, hb1⟩
            go_wp2_with fail
            refine (HUX.out _).mono ?_
            rintro e w2 ⟨_, he, hb2⟩
            obtain ⟨A, c, rfl, hown⟩ := he b HU.out
            obtain ⟨A', c', e', _, hsp, hrow⟩ := own_more hown
            cases e'
            have hrun := run_text (P := Tryz.prog) Tryz.underlying44 Tryz.underlying5 w2 A b c hrow hsp 9 Tryz.underlying9
            have HROW := Lib.hid hrow
            clear he hown hrow
            go_wp2_with fail
            refine (HPB.out _).mono ?_
            rintro e w3 ⟨rfl, hb3⟩
            have hrun3 := run_text (P := Tryz.prog) Tryz.underlying44 Tryz.underlying5 w3 A b c (HROW.out.below hb3) hsp 9 Tryz.underlying9
            clear hrun
            go_wp2_with fail
            go_ret2
            exact UnwordIt.yes (t := ⟨b.toArray⟩) (by rw [HN.out]) (below_chain (below_chain hb1 hb2) hb3)
      · have t1 : ((s[0].toNat : Int) != 61) = true := by rw [bne_iff_ne]; omega
        have HN := Lib.hid (unword_head h' (.inr (head_of h0 h61)))
        clear hp h h' h61
        go_enter Tryz.func8, Tryz.ntmps8
        go_wp2_with fail
        refine (HP.out _).mono ?_
        rintro e w1 ⟨rfl, hb1⟩
        go_wp2_with fail
        go_ret2
        exact UnwordIt.no HN.out hb1
    · have t0 := empty_beq (s := s) (by omega)
      have HN := Lib.hid (unword_head h' (.inl (List.eq_nil_of_length_eq_zero (by omega))))
      clear hp h h'
      go_enter Tryz.func8, Tryz.ntmps8
      go_wp2_with fail
      refine (HP.out _).mono ?_
      rintro e w1 ⟨rfl, hb1⟩
      go_wp2_with fail
      go_ret2
      exact UnwordIt.no HN.out hb1
set_option maxRecDepth 100000 in
set_option maxHeartbeats 4000000 in
theorem runword_any (s : ByteArray) (w : World) (hs : s.size ≤ 549755813888) :
    Calls Tryz.prog 9 #[.string s] w (UnwordIt w s.data.toList) := by
  have hsl := str_len s
  have hp := fun W => rplain_any s W (by omega)
  by_cases h : plainW s.data.toList = true
  · rw [h] at hp
    have HP := Lib.hid hp
    have HE := Lib.hid (unword_plain h)
    clear hp h
    go_enter Tryz.func9, Tryz.ntmps9
    go_wp2_with fail
    refine (HP.out _).mono ?_
    rintro e w1 ⟨rfl, rfl⟩
    go_wp2_with fail
    go_ret2
    exact UnwordIt.yes HE.out (Below.refl _ _)
  · have h' : plainW s.data.toList = false := by simpa using h
    rw [h'] at hp
    have HP := Lib.hid hp
    by_cases h0 : 0 < s.size
    · have t0 : ((s.size : Int) == 0) = false := by rw [beq_eq_false_iff_ne]; omega
      by_cases h61 : s[0].toNat = 61
      · have t1 : ((s[0].toNat : Int) != 61) = false := by rw [h61]; rfl
        have hc : s.data.toList[0]'(by omega) = 61 := by
          rw [str_get s 0 h0]
          exact UInt8.toNat_inj.1 (by rw [h61]; rfl)
        have hun := unword_hex h' (by omega) hc
        have hux := fun W => runhex_any (s.extract 1 s.size) W (by simp; omega)
        have hxd : (s.extract 1 s.size).data.toList = s.data.toList.drop 1 := Lib.extract_to_end s 1
        rw [hxd] at hux
        have HUX := Lib.hid hux
        rcases hu : unhexL (s.data.toList.drop 1) with _ | b
        · rw [hu] at hun
          have HN := Lib.hid hun
          have HU := Lib.hid hu
          clear hun hux hxd hu hc hp h h' h61
          go_enter Tryz.func9, Tryz.ntmps9
          go_wp2_with fail
          refine (HP.out _).mono ?_
          rintro e w1 ⟨rfl, rfl⟩
          go_wp2_with fail
          refine (HUX.out _).mono ?_
          rintro e w2 ⟨he, _, hb2⟩
          rw [he HU.out]
          clear he
          go_wp2_with fail
          go_ret2
          exact UnwordIt.no HN.out hb2
        · rw [hu] at hun
          have hlb := unhex_len _ _ hu
          rw [List.length_drop, hsl] at hlb
          have hpb := fun W => rplain_any ⟨b.toArray⟩ W (by rw [str_size]; omega)
          have HU := Lib.hid hu
          by_cases hpl : plainW b = true
          · have HN : Hid (unwordL s.data.toList = none) := Lib.hid (by rw [hun]; simp [hpl])
            have HPB : Hid (∀ W, Calls Tryz.prog 21 #[.string ⟨b.toArray⟩] W fun e w' => e = .returned (.bool true) ∧ W = w') := Lib.hid (fun W => by simpa [hpl] using hpb W)
            clear hun hux hxd hu hc hp h h' h61 hpb hpl
            go_enter Tryz.func9, Tryz.ntmps9
            go_wp2_with fail
            refine (HP.out _).mono ?_
            rintro e w1 ⟨rfl, rfl⟩
            go_wp2_with fail
            refine (HUX.out _).mono ?_
            rintro e w2 ⟨_, he, hb2⟩
            rw [he b HU.out]
            clear he
            go_wp2_with fail
            refine (HPB.out _).mono ?_
            rintro e w3 ⟨rfl, rfl⟩
            go_wp2_with fail
            go_ret2
            exact UnwordIt.no HN.out hb2
          · have hpl' : plainW b = false := by simpa using hpl
            have HN : Hid (unwordL s.data.toList = some b) := Lib.hid (by rw [hun]; simp [hpl'])
            have HPB : Hid (∀ W, Calls Tryz.prog 21 #[.string ⟨b.toArray⟩] W fun e w' => e = .returned (.bool false) ∧ W = w') := Lib.hid (fun W => by simpa [hpl'] using hpb W)
            clear hun hux hxd hu hc hp h h' h61 hpb hpl hpl'
            go_enter Tryz.func9, Tryz.ntmps9
            go_wp2_with fail
            refine (HP.out _).mono ?_
            rintro e w1 ⟨rfl, rfl⟩
            go_wp2_with fail
            refine (HUX.out _).mono ?_
            rintro e w2 ⟨_, he, hb2⟩
            rw [he b HU.out]
            clear he
            go_wp2_with fail
            refine (HPB.out _).mono ?_
            rintro e w3 ⟨rfl, rfl⟩
            go_wp2_with fail
            go_ret2
            exact UnwordIt.yes (t := ⟨b.toArray⟩) (by rw [HN.out]) hb2
      · have t1 : ((s[0].toNat : Int) != 61) = true := by rw [bne_iff_ne]; omega
        have HN := Lib.hid (unword_head h' (.inr (head_of h0 h61)))
        clear hp h h' h61
        go_enter Tryz.func9, Tryz.ntmps9
        go_wp2_with fail
        refine (HP.out _).mono ?_
        rintro e w1 ⟨rfl, rfl⟩
        go_wp2_with fail
        go_ret2
        exact UnwordIt.no HN.out (Below.refl _ _)
    · have t0 : ((s.size : Int) == 0) = true := by rw [beq_iff_eq]; omega
      have HN := Lib.hid (unword_head h' (.inl (List.eq_nil_of_length_eq_zero (by omega))))
      clear hp h h'
      go_enter Tryz.func9, Tryz.ntmps9
      go_wp2_with fail
      refine (HP.out _).mono ?_
      rintro e w1 ⟨rfl, rfl⟩
      go_wp2_with fail
      go_ret2
      exact UnwordIt.no HN.out (Below.refl _ _)
end Go.Proofs.YtifmgmiaeoiidaaGreatDoor
