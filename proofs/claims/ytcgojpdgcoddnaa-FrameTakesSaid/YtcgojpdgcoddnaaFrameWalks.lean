/- Package frame, Put and Take; the document's Put. -/
import Derived.Test.YtcgojpdgcoddnaaWireLib
import Derived.Test.YtcgojpdgcoddnaaSumOf
import Derived.Test.YtcgojpdgcoddnaaFrameMath
namespace Go.Proofs.Ytcgojpdgcoddnaa
open Go.RowKit

theorem below_only' {B : Nat} {w a b : World} {g : Nat} (h : Below B w a) (hg : a.grownBy b (some g)) (hB : B ≤ w.heap.size) (hb : B ≤ g) : Below B w b :=
  h.grown hg (Nat.le_trans hB h.size) (by intro k hk; cases hk; exact hb)
theorem below_then {B : Nat} {w a b : World} (h : Below B w a) (hg : Below a.heap.size a b) (hB : B ≤ w.heap.size) : Below B w b := h.trans (hg.mono (Nat.le_trans hB h.size))

theorem crc32 (l : List UInt8) : CrcMath.crc l < 4294967296 := CrcMath.crc_lt l

theorem frame_bs (p : ByteArray) : bs (WM.be 4 p.size) ++ bs (WM.be 4 (CrcMath.crc (WM.be 4 p.size))) ++ p ++ bs (WM.be 4 (CrcMath.crc p.data.toList)) = bs (FM.frame p.data.toList) := by
  rw [bs_append]
  conv => lhs; lhs; rhs; rw [← bs_of p]
  rw [bs_append, bs_append]
  rfl

set_option maxRecDepth 100000 in
set_option maxHeartbeats 2000000 in
theorem put_any (p : ByteArray) (w : World) (hp : p.size ≤ 4096) :
    Calls Try.prog 9 #[.string p] w fun e w' => e = .returned (.tuple #[.string (bs (FM.frame p.data.toList)), .int .i64 0]) ∧ Below w.heap.size w w' := by
  have hd : decide (4096 < (p.size : Int)) = false := by simp; omega
  have hf := frame_bs p
  have c1 := crc32 (WM.be 4 p.size)
  have c2 := crc32 p.data.toList
  have h1 := bs_size (WM.be 4 p.size)
  have h2 := bs_size (WM.be 4 (CrcMath.crc (WM.be 4 p.size)))
  have h3 := bs_size (WM.be 4 (CrcMath.crc p.data.toList))
  rw [WM.be_len] at h1 h2 h3
  have HF := Lib.hid hf
  have H := Lib.hid (And.intro c1 c2)
  clear hf c1 c2
  go_enter Try.func9, Try.ntmps9
  go_wp2_with fail
  refine (wireU32_any _ _ (by omega) (by omega)).mono ?_
  rintro e w1 ⟨rfl, hb1⟩
  simp only [Int.toNat_natCast]
  go_wp2_with fail
  refine (of_any _ _ (by rw [h1]; omega)).mono ?_
  rintro e w2 ⟨rfl, hb2⟩
  simp only [bs_list]
  have hc2 := hb1.trans (hb2.mono hb1.size)
  clear hb1 hb2
  go_wp2_with fail
  refine (wireU32_any _ _ (by omega) (by have := H.out.1; omega)).mono ?_
  rintro e w3 ⟨rfl, hb3⟩
  simp only [Int.toNat_natCast]
  have hc3 := hc2.trans (hb3.mono hc2.size)
  clear hc2 hb3
  go_wp2_with fail
  refine (of_any _ _ (by omega)).mono ?_
  rintro e w4 ⟨rfl, hb4⟩
  have hc4 := hc3.trans (hb4.mono hc3.size)
  clear hc3 hb4
  go_wp2_with fail
  refine (wireU32_any _ _ (by omega) (by have := H.out.2; omega)).mono ?_
  rintro e w5 ⟨rfl, hb5⟩
  simp only [Int.toNat_natCast]
  have hc5 := hc4.trans (hb5.mono hc4.size)
  clear hc4 hb5
  go_wp2_with fail
  go_ret2
  rw [HF.out]
  exact ⟨rfl, hc5⟩

set_option maxHeartbeats 1000000 in
theorem put_long (p : ByteArray) (w : World) (hp : 4096 < p.size) :
    Calls Try.prog 9 #[.string p] w fun e w' => e = .returned (.tuple #[.string ByteArray.empty, .int .i64 3]) ∧ Below w.heap.size w w' := by
  have hd : decide (4096 < (p.size : Int)) = true := by simp; omega
  go_enter Try.func9, Try.ntmps9
  go_wp2
  go_ret2
  exact ⟨rfl, Below.refl _ _⟩

set_option maxRecDepth 100000 in
set_option maxHeartbeats 2000000 in
theorem refPut_any (p : ByteArray) (w : World) (hp : p.size < 4294967296) :
    Calls Try.prog 10 #[.string p] w fun e w' => e = .returned (.string (bs (FM.frame p.data.toList))) ∧ Below w.heap.size w w' := by
  have hf := frame_bs p
  have c1 := crc32 (WM.be 4 p.size)
  have c2 := crc32 p.data.toList
  have h1 := bs_size (WM.be 4 p.size)
  have h2 := bs_size (WM.be 4 (CrcMath.crc (WM.be 4 p.size)))
  have h3 := bs_size (WM.be 4 (CrcMath.crc p.data.toList))
  rw [WM.be_len] at h1 h2 h3
  have HF := Lib.hid hf
  have H := Lib.hid (And.intro c1 c2)
  clear hf
  go_enter Try.func10, Try.ntmps10
  go_wp2_with fail
  refine (refNumber_any _ 4 _ (by omega) (by omega)).mono ?_
  rintro e w1 ⟨rfl, hb1⟩
  go_wp2_with fail
  refine (refOf_any _ _ (by rw [h1]; omega)).mono ?_
  rintro e w2 ⟨rfl, rfl⟩
  simp only [bs_list]
  go_wp2_with fail
  refine (refNumber_any _ 4 _ (by omega) (by omega)).mono ?_
  rintro e w3 ⟨rfl, hb3⟩
  have hc3 := hb1.trans (hb3.mono hb1.size)
  clear hb1 hb3
  go_wp2_with fail
  refine (refOf_any _ _ (by omega)).mono ?_
  rintro e w4 ⟨rfl, rfl⟩
  go_wp2_with fail
  refine (refNumber_any _ 4 _ (by omega) (by omega)).mono ?_
  rintro e w5 ⟨rfl, hb5⟩
  have hc5 := hc3.trans (hb5.mono hc3.size)
  clear hc3 hb5
  go_wp2_with fail
  go_ret
  rw [HF.out]
  exact ⟨rfl, hc5⟩

end Go.Proofs.Ytcgojpdgcoddnaa
