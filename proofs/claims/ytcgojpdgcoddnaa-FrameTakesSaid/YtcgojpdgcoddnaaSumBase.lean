/- The register's step as the walk spells it; small words. -/
import Derived.Test.YtcgojpdgcoddnaaProg
import Derived.Test.YtcgojpdgcoddnaaSumMath
import Derived.WalkKit
import Derived.WalkSpells
import Derived.WalkLawsBesides
import Derived.Lib.Hide
namespace Go.Proofs.Ytcgojpdgcoddnaa
open Go.RowKit CrcMath

theorem step_bits (x : Nat) (hx : x < 4294967296) :
    bits BinOp.xor IntKind.u32 (↑x / 2) (bits BinOp.and IntKind.u32 2197175160 (-bits BinOp.and IntKind.u32 (↑x) 1 % 4294967296)) = ((st x : Nat) : Int) := by
  have h1 : bits BinOp.and IntKind.u32 (↑x) 1 = ((x % 2 : Nat) : Int) := by
    have := u32_and_nat x 1 hx (by omega)
    rw [nat_mask1] at this
    exact this
  have h2 : ((x : Int) / 2) = ((x / 2 : Nat) : Int) := by omega
  rw [h1, h2]
  unfold st
  rcases Nat.mod_two_eq_zero_or_one x with h | h <;> rw [h]
  · have := u32_and_nat 2197175160 0 (by omega) (by omega)
    simp only [Nat.and_zero] at this
    rw [show (-((0 : Nat) : Int) % 4294967296) = ((0 : Nat) : Int) from by omega]
    rw [show (2197175160 : Int) = ((2197175160 : Nat) : Int) from rfl, this, u32_xor_nat _ _ (by omega) (by omega)]
    simp
  · have := u32_and_nat 2197175160 4294967295 (by omega) (by omega)
    rw [show (-((1 : Nat) : Int) % 4294967296) = ((4294967295 : Nat) : Int) from by omega]
    rw [show (2197175160 : Int) = ((2197175160 : Nat) : Int) from rfl, this, show (2197175160 &&& 4294967295 : Nat) = 2197175160 from by decide, u32_xor_nat _ _ (by omega) (by omega)]
    rfl

theorem ret_int {k : IntKind} {a b : Int} (h : a = b) : Ending.returned (.int k a) = .returned (.int k b) := by rw [h]

theorem xor_lt32 {a b : Nat} (ha : a < 4294967296) (hb : b < 4294967296) : a ^^^ b < 4294967296 := Nat.xor_lt_two_pow (n := 32) ha hb
theorem st_lt' {a : Nat} (ha : a < 4294967296) : st a < 4294967296 := st_lt (x := a) ha

theorem int_of_val {k : IntKind} {a b : Int} (h : a = b) : Value.int k a = .int k b := by rw [h]

end Go.Proofs.Ytcgojpdgcoddnaa
