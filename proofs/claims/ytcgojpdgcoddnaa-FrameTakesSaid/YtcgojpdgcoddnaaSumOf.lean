/- Package sum: Of and More at every input. -/
import Derived.Test.YtcgojpdgcoddnaaSumWalks
namespace Go.Proofs.Ytcgojpdgcoddnaa
open Go.RowKit CrcMath

theorem more_any (sum : Int) (s : ByteArray) (w : World) (h0 : 0 ≤ sum) (h : sum < 4294967296) (hs : s.size ≤ 9223372036854775807) :
    Calls Try.prog 25 #[.int .u32 sum, .string s] w fun e w' => e = .returned (.int .u32 (more sum.toNat s.data.toList : Nat)) ∧ Below w.heap.size w w' := by
  obtain ⟨m, rfl⟩ := Int.eq_ofNat_of_zero_le h0
  simp only [Int.toNat_natCast]
  exact more_nat m s w (by omega) hs

set_option maxHeartbeats 1000000 in
theorem of_any (s : ByteArray) (w : World) (hs : s.size ≤ 9223372036854775807) :
    Calls Try.prog 19 #[.string s] w fun e w' => e = .returned (.int .u32 (crc s.data.toList : Nat)) ∧ Below w.heap.size w w' := by
  go_enter Try.func19, Try.ntmps19
  go_wp2_with (go_at_call 25; refine (more_any _ _ _ (by omega) (by omega) hs).mono ?_; rintro e w' ⟨rfl, hb⟩)
  go_ret
  exact ⟨rfl, hb⟩

end Go.Proofs.Ytcgojpdgcoddnaa
