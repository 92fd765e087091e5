/-
  The walks of layer mix's numbers of keys: what each call answers, and what becomes of the world.
-/
import Derived.Test.YtpoioafchilmhaaMixB
import Derived.Test.YtpoioafchilmhaaFoldA
namespace Go.Proofs.Ytpoioafchilmhaa
open Go.RowKit Go.Mixp Go.Foldp Go.Colm

def mKey (h t : Nat) : Nat := mStep (mStep h (t % 256)) (t / 256)
theorem mKey_lt (h t : Nat) : mKey h t < 4294967296 := mStep_lt _ _
theorem mKey_int (h t : Int) (t0 : 0 ≤ t) (t1 : t < 65536) : mStep (mStep h.toNat (t % 256).toNat) (IntKind.u16.wrap (t.tdiv 256) % 256).toNat = mKey h.toNat t.toNat := by
  have e1 : (t % 256).toNat = t.toNat % 256 := by omega
  have e2 : (IntKind.u16.wrap (t.tdiv 256) % 256).toNat = t.toNat / 256 := by
    rw [Int.tdiv_eq_ediv_of_nonneg t0, IntKind.wrap_u16]; omega
  unfold mKey
  rw [e1, e2]

set_option maxHeartbeats 400000 in
theorem rkey_any (h t : Int) (w : World) (h0 : 0 ≤ h) (h1 : h < 4294967296) (t0 : 0 ≤ t) (t1 : t < 65536) :
    Calls Try.prog 18 #[.int .u32 h, .int .u16 t] w fun e w' => e = .returned (.int .u32 (mKey h.toNat t.toNat : Nat)) ∧ ∃ n, w' = w.drewN n := by
  have hlt := mStep_lt h.toNat (t % 256).toNat
  have E2 := Lib.hid (mKey_int h t t0 t1)
  have y0 : 0 ≤ IntKind.u16.wrap (t.tdiv 256) % 256 := by omega
  have y1 : IntKind.u16.wrap (t.tdiv 256) % 256 < 256 := by omega
  go_enter Try.func18, Try.ntmps18
  go_wp2_with fail
  refine (rstep_any _ _ _ h0 h1 (by omega) (by omega)).mono ?_
  rintro e w' ⟨rfl, n, rfl⟩
  go_wp2_with fail
  refine (rstep_any _ _ _ (by omega) (by omega) y0 y1).mono ?_
  rintro e w' ⟨rfl, n, rfl⟩
  rw [Int.toNat_natCast, E2.out]
  go_wp2_with fail
  go_ret
  exact ⟨rfl, _, rfl⟩

set_option maxHeartbeats 400000 in
theorem key_any (h t : Int) (w : World) (h0 : 0 ≤ h) (h1 : h < 4294967296) (t0 : 0 ≤ t) (t1 : t < 65536) :
    Calls Try.prog 17 #[.int .u32 h, .int .u16 t] w fun e w' => e = .returned (.int .u32 (mKey h.toNat t.toNat : Nat)) ∧ Below w.heap.size w w' := by
  have x0 : t / 256 < 256 := by omega
  have E := Lib.hid (show mBytes h.toNat [UInt8.ofNat (t % 256).toNat, UInt8.ofNat (t / 256).toNat] = mKey h.toNat t.toNat by
    have e1 : (UInt8.ofNat (t % 256).toNat).toNat = t.toNat % 256 := by simp only [UInt8.toNat_ofNat']; omega
    have e2 : (UInt8.ofNat (t / 256).toNat).toNat = t.toNat / 256 := by simp only [UInt8.toNat_ofNat']; omega
    rw [mBytes_cons, mBytes_cons, mBytes_nil, e1, e2]
    rfl)
  have c := steps_any h (some ⟨w.heap.size, 0, none⟩) [UInt8.ofNat (t % 256).toNat, UInt8.ofNat (t / 256).toNat] 2 _ h0 h1 (by simp) (RowV.new2 w 5 (t % 256) (t / 256) (by omega) (by omega) (by omega) x0)
  rw [E.out] at c
  simp only [List.length_cons, List.length_nil, Nat.zero_add, Nat.reduceAdd] at c
  have C := c
  clear c
  go_enter Try.func17, Try.ntmps17
  go_wp2_with fail
  refine C.mono ?_
  rintro e w' ⟨rfl, rfl⟩
  go_wp2_with fail
  go_ret
  exact ⟨rfl, (Below.refl _ _).alloc (Nat.le_refl _) _⟩

/-- The number of a label below a name. -/
def mLabel (p : Nat) (l : List UInt8) : Nat := mStep (mBytes p (lowL l)) 46
theorem mLabel_lt (p : Nat) (l : List UInt8) : mLabel p l < 4294967296 := mStep_lt _ _

set_option maxHeartbeats 400000 in
theorem label_any (h : Int) (s : ByteArray) (w : World) (h0 : 0 ≤ h) (h1 : h < 4294967296) (hs : s.size ≤ 70368744177664) :
    Calls Try.prog 14 #[.int .u32 h, .string s] w fun e w' => e = .returned (.int .u32 (mLabel h.toNat s.data.toList : Nat)) ∧ Below w.heap.size w w' := by
  have hlt := mBytes_lt (h := h.toNat) (by omega) (lowL s.data.toList)
  have hsz : (ByteArray.mk (lowL s.data.toList).toArray).size ≤ 140737488355328 := by
    show (lowL s.data.toList).toArray.size ≤ _
    simp [lowL_length]
    omega
  have E := Lib.hid (show mBytes (mBytes h.toNat (lowL s.data.toList)) [UInt8.ofNat (46 : Int).toNat] = mLabel h.toNat s.data.toList by
    rw [mBytes_cons, mBytes_nil]
    rfl)
  go_enter Try.func14, Try.ntmps14
  go_wp2_with fail
  refine (lower_any _ _ hs).mono ?_
  rintro e w1 ⟨rfl, hb1⟩
  go_wp2_with fail
  refine (throughS_any _ _ _ h0 h1 hsz).mono ?_
  rintro e w2 ⟨rfl, rfl⟩
  have c := steps_any (mBytes h.toNat (lowL s.data.toList) : Nat) (some ⟨w1.heap.size, 0, none⟩) [UInt8.ofNat (46 : Int).toNat] 1 _ (by omega) (by omega) (by simp) (RowV.new1 w1 5 46 (by omega) (by omega))
  rw [Int.toNat_natCast, E.out] at c
  simp only [List.length_cons, List.length_nil, Nat.zero_add] at c
  go_wp2_with fail
  refine c.mono ?_
  rintro e w' ⟨rfl, rfl⟩
  clear c
  go_wp2_with fail
  go_ret
  exact ⟨rfl, hb1.alloc hb1.size _⟩

set_option maxHeartbeats 400000 in
theorem rlabel_any (h : Int) (s : ByteArray) (w : World) (h0 : 0 ≤ h) (h1 : h < 4294967296) (hs : s.size ≤ 70368744177664) :
    Calls Try.prog 15 #[.int .u32 h, .string s] w fun e w' => e = .returned (.int .u32 (mLabel h.toNat s.data.toList : Nat)) ∧ Below w.heap.size w w' := by
  have hlt := mBytes_lt (h := h.toNat) (by omega) (lowL s.data.toList)
  have hln : (lowL s.data.toList).length ≤ 140737488355328 := by
    rw [lowL_length]
    simp
    omega
  have hcv := fun (x : ByteArray) (W : World) => Lib.run_convert_string_bytes (P := Try.prog) W 9 23 5 x Try.underlying9 Try.underlying23 Try.underlying5
  go_enter Try.func15, Try.ntmps15
  go_wp2_with fail
  refine (rlower_any _ _ hs).mono ?_
  rintro e w1 ⟨rfl, hb1⟩
  have c := rbytes_any h (some ⟨w1.heap.size, 0, none⟩) (lowL s.data.toList) (grownCap w1 (lowL s.data.toList).length 0 5) _ h0 h1 hln (RowV.bytesWorld w1 5 ⟨(lowL s.data.toList).toArray⟩)
  have hb2 := below_chain hb1 (below_bytesWorld w1 5 ⟨(lowL s.data.toList).toArray⟩)
  have E := Lib.hid (show mStep (mBytes h.toNat (lowL s.data.toList)) (46 : Int).toNat = mLabel h.toNat s.data.toList from rfl)
  go_wp2_with fail
  refine c.mono ?_
  rintro e w2 ⟨rfl, n, rfl⟩
  clear c
  have c2 := fun W => rstep_any (mBytes h.toNat (lowL s.data.toList) : Nat) 46 W (by omega) (by omega) (by omega) (by omega)
  rw [Int.toNat_natCast, E.out] at c2
  go_wp2_with fail
  refine (c2 _).mono ?_
  rintro e w3 ⟨rfl, m, rfl⟩
  clear c2
  go_wp2_with fail
  go_ret
  exact ⟨rfl, below_drewN hb2 _⟩

attribute [irreducible] mLabel mKey
end Go.Proofs.Ytpoioafchilmhaa
