/-
  The walks of layer script's unhex and of the reference's: digits as bytes. Texts of at most 2^40 bytes.
-/
import Derived.Test.YtifmgmiaeoiidaaGreatDoorScrB
import Derived.Test.YtifmgmiaeoiidaaGreatDoorInb
namespace Go.Proofs.YtifmgmiaeoiidaaGreatDoor
open Go.RowKit Go.Colm Go.Scrp
set_option linter.unusedVariables false

/-- A digit's place among the digits. -/
def placeI (c : UInt8) : Int := if valN c < 16 then (valN c : Int) else -1
theorem place_all : ∀ n : Fin 256, Lib.indexByte digT.data.toList (UInt8.ofNat n.val) = placeI (UInt8.ofNat n.val) := by decide +kernel
theorem place_of (c : UInt8) : Lib.indexByte digT.data.toList c = placeI c := by
  have := place_all ⟨c.toNat, UInt8.toNat_lt c⟩
  simpa using this
theorem or_all : ∀ n m : Fin 16, bits BinOp.or IntKind.i64 ((n.val : Int) * 16) (m.val : Int) = (n.val : Int) * 16 + (m.val : Int) := by decide +kernel
theorem or_half {n m : Nat} (h1 : n < 16) (h2 : m < 16) : bits BinOp.or IntKind.i64 ((n : Int) * 16) (m : Int) = (n : Int) * 16 + (m : Int) := or_all ⟨n, h1⟩ ⟨m, h2⟩

theorem own_drewN {w : World} {B : Nat} {t : TypeId} {z n : Nat} {v : Value} {xs : List Value} (h : w.ownsRow B t z v n xs) (k : Nat) : (w.drewN k).ownsRow B t z v n xs := h
/-- What comes of digits. -/
def UnhexIt (w : World) (s : List UInt8) (e : Ending) (w' : World) : Prop :=
  (unhexL s = none → e = .returned (.tuple #[.slice none 0 0, .bool false])) ∧
  (∀ b, unhexL s = some b → ∃ A c, e = .returned (.tuple #[.slice A b.length c, .bool true]) ∧ w'.ownsRow w.heap.size 5 1 (.slice A b.length c) b.length (bytesV b)) ∧ Below w.heap.size w w'
theorem UnhexIt.no {w w' : World} {s : List UInt8} (h : unhexL s = none) (hb : Below w.heap.size w w') : UnhexIt w s (.returned (.tuple #[.slice none 0 0, .bool false])) w' :=
  ⟨fun _ => rfl, fun b hb => (by rw [h] at hb; cases hb), hb⟩
theorem UnhexIt.yes {w w' : World} {s b : List UInt8} {A : Option Addr} {c : Nat} (h : unhexL s = some b) (hr : w'.ownsRow w.heap.size 5 1 (.slice A b.length c) b.length (bytesV b)) (hb : Below w.heap.size w w') :
    UnhexIt w s (.returned (.tuple #[.slice A b.length c, .bool true])) w' :=
  ⟨fun h2 => (by rw [h] at h2; cases h2), fun b2 h2 => (by rw [h] at h2; cases h2; exact ⟨A, c, rfl, hr⟩), hb⟩
/-- What is carried from pair to pair. -/
structure HexLoop (s : List UInt8) (w : World) (k : Nat) (v : Value) (done : List UInt8) (wr : World) : Prop where
  row : wr.ownsRow w.heap.size 5 1 v done.length (bytesV done)
  rest : unhexL s = (unhexL (s.drop k)).map (done ++ ·)
  below : Below w.heap.size w wr
  len : 2 * done.length = k

set_option maxRecDepth 100000 in
set_option maxHeartbeats 4000000 in
theorem unhex_any (s : ByteArray) (w : World) (hs : s.size ≤ 1099511627776) :
    Calls Tryz.prog 20 #[.string s] w (UnhexIt w s.data.toList) := by
  obtain ⟨i0, hi, hz0, hz1, hz2⟩ := info_parts byte_info
  have hsl := str_len s
  have HI : Hid (∀ (c : UInt8) W, Calls Tryz.prog 37 #[.string digT, .int .u8 (c.toNat : Int)] W fun e w' => e = .returned (.int .i64 (placeI c)) ∧ w' = W) := Lib.hid (fun c W => by
    have := indexByte_any digT c W
    rwa [place_of] at this)
  by_cases hodd : s.size % 2 = 1
  · have t1 : (((s.size : Int) % 2) != 0) = true := by rw [show (s.size : Int) % 2 = 1 by omega]; rfl
    have HN := Lib.hid (unhex_odd s.data.toList (by omega))
    go_enter Tryz.func20, Tryz.ntmps20
    go_wp2_with fail
    go_ret2
    exact UnhexIt.no HN.out (Below.refl _ _)
  · have hev : s.size % 2 = 0 := by omega
    have t1 : (((s.size : Int) % 2) != 0) = false := by rw [show (s.size : Int) % 2 = 0 by omega]; rfl
    go_enter Tryz.func20, Tryz.ntmps20
    go_wp2_with fail
    go_loopw [4, 5] (fun v i wr => ∃ (k : Nat) (done : List UInt8), k ≤ s.size ∧ k % 2 = 0 ∧ i = .int .i64 k ∧ Hid (HexLoop s.data.toList w k v done wr)) (fun _ i _ => s.size - (intOf i).toNat)
    case atStart => exact ⟨0, [], Nat.zero_le _, rfl, rfl, Lib.hid ⟨own_nil _ _ _ _, by simp, Below.refl _ _, rfl⟩⟩
    case round =>
      obtain ⟨k, done, hk, hk2, rfl, HL⟩ := hrel
      by_cases hlt : k < s.size
      · have hlt1 : k + 1 < s.size := by omega
        have hc1 := HI.out s[k]
        have hc2 := HI.out s[k + 1]
        have ek := str_get s k hlt
        have ek1 := str_get s (k + 1) hlt1
        have f1 : IntKind.i64.wrap ((k : Int) + 1) = ((k + 1 : Nat) : Int) := by rw [IntWalk.i64_in _ (by omega)]; omega
        have f2 : (0 : Int) ≤ (k : Int) + 1 := by omega
        have f3 : (k : Int) + 1 < (s.size : Int) := by omega
        by_cases hv : valN s[k] < 16 ∧ valN s[k + 1] < 16
        · obtain ⟨hv1, hv2⟩ := hv
          obtain ⟨b3, hb3⟩ : ∃ b3, b3 = UInt8.ofNat (16 * valN s[k] + valN s[k + 1]) := ⟨_, rfl⟩
          have HS : Hid (unhexL s.data.toList = (unhexL (s.data.toList.drop (k + 2))).map ((done ++ [b3]) ++ ·)) := Lib.hid (by
            rw [hb3]
            exact unhex_step HL.out.rest (by omega) (by rw [ek]; exact hv1) (by rw [ek1]; exact hv2))
          have p1 : placeI s[k] = (valN s[k] : Int) := by rw [placeI, if_pos hv1]
          have p2 : placeI s[k + 1] = (valN s[k + 1] : Int) := by rw [placeI, if_pos hv2]
          rw [p1] at hc1
          rw [p2] at hc2
          have hor := or_half hv1 hv2
          have hbt : ((b3.toNat : Nat) : Int) = ((valN s[k] : Int) * 16 + (valN s[k + 1] : Int)) := by
            rw [hb3, UInt8.toNat_ofNat']
            omega
          obtain ⟨x, hh⟩ : ∃ x, x = valN s[k] := ⟨_, rfl⟩
          obtain ⟨y, hl⟩ : ∃ y, y = valN s[k + 1] := ⟨_, rfl⟩
          simp only [← hh] at hc1 hor hbt hv1
          simp only [← hl] at hc2 hor hbt hv2
          have HC1 := Lib.hid hc1
          have HC2 := Lib.hid hc2
          have HBT := Lib.hid hbt
          have HR := Lib.hid HL.out.row
          have HB := Lib.hid HL.out.below
          have hdl := HL.out.len
          have hsz := HB.out.size
          clear hc1 hc2 p1 p2 hh hl hb3 ek ek1 hbt
          go_wp2_with fail
          go_quiet ((go_at_call 37; first | with_reducible exact Calls.quiet_of_same (HC1.out _) | with_reducible exact Calls.quiet_of_same (HC2.out _)))
          go_wp2_with (at_builtin; go_loud (refine wpList_append_own _ rfl _ _ 44 rfl w.heap.size 5 i0 (.int .u8 0) 1 1 Tryz.underlying44 hi hz0 hz1 hz2 rfl (by decide) u4 done.length (bytesV done) rfl ((own_drewN HR.out nq).alloc _) ⟨wr.heap.size, 0, none⟩ 1 1 [.int .u8 ((x : Int) * 16 + (y : Int))] rfl rfl (cell_one_new _ _ _) (fun z hz => by simp at hz; subst hz; rfl) (by unfold maxLen; omega) (by omega) (by show w.heap.size ≤ _; simp; omega) ?_; intro v3 w3 hown3 hg3 _))
          have hb3 : Below w.heap.size w w3 := own_below ((own_drewN HR.out nq).alloc (.cells #[.int .u8 ((x : Int) * 16 + (y : Int))] 5)) ((below_drewN HB.out nq).alloc hsz _) (by simp; omega) hg3
          have HN3 : Hid (HexLoop s.data.toList w (k + 2) v3 (done ++ [b3]) w3) := Lib.hid ⟨by
            rw [List.length_append, bytesV_append]
            have : bytesV [b3] = [.int .u8 ((x : Int) * 16 + (y : Int))] := by simp only [bytesV, List.map_cons, List.map_nil, HBT.out]
            rw [this]
            exact hown3, HS.out, hb3, by simp; omega⟩
          clear hown3 hg3 hb3
          go_wp2_with fail
          go_roundw
          case rel => exact ⟨k + 2, done ++ [b3], by omega, by omega, by go_num, HN3⟩
          case measure => simp [intOf]; omega
        · have HE := Lib.hid (unhex_stop HL.out.rest (by omega) (by rw [ek, ek1]; exact hv))
          have HB := Lib.hid HL.out.below
          by_cases hv1 : valN s[k] < 16
          · have p1 : placeI s[k] = (valN s[k] : Int) := by rw [placeI, if_pos hv1]
            have p2 : placeI s[k + 1] = -1 := by rw [placeI, if_neg (fun h => hv ⟨hv1, h⟩)]
            rw [p1] at hc1
            rw [p2] at hc2
            obtain ⟨x, hh⟩ : ∃ x, x = valN s[k] := ⟨_, rfl⟩
            simp only [← hh] at hc1
            have HC1 := Lib.hid hc1
            have HC2 := Lib.hid hc2
            clear hc1 hc2 p1 p2 hh ek ek1 hv hv1
            go_wp2_with fail
            go_quiet ((go_at_call 37; first | with_reducible exact Calls.quiet_of_same (HC1.out _) | with_reducible exact Calls.quiet_of_same (HC2.out _)))
            go_wp2_with fail
            go_ret2
            exact UnhexIt.no HE.out (below_drewN HB.out _)
          · have p1 : placeI s[k] = -1 := by rw [placeI, if_neg hv1]
            rw [p1] at hc1
            obtain ⟨y, hh⟩ : ∃ y, y = placeI s[k + 1] := ⟨_, rfl⟩
            simp only [← hh] at hc2
            have HC1 := Lib.hid hc1
            have HC2 := Lib.hid hc2
            clear hc1 hc2 p1 hh ek ek1 hv hv1
            go_wp2_with fail
            go_quiet ((go_at_call 37; first | with_reducible exact Calls.quiet_of_same (HC1.out _) | with_reducible exact Calls.quiet_of_same (HC2.out _)))
            go_wp2_with fail
            go_ret2
            exact UnhexIt.no HE.out (below_drewN HB.out _)
      · have HE := Lib.hid (unhex_end HL.out.rest (by omega))
        have HR := Lib.hid HL.out.row
        have HB := Lib.hid HL.out.below
        obtain ⟨A, c, rfl, hcap, hsp, hrow⟩ := own_more HL.out.row
        clear hcap hsp hrow
        go_wp2_with fail
        go_ret2
        exact UnhexIt.yes HE.out HR.out HB.out
end Go.Proofs.YtifmgmiaeoiidaaGreatDoor
