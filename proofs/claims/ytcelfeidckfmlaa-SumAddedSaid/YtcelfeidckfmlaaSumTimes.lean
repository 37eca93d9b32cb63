/- sum.times is the product of polynomials: every pair of numbers. -/
import Derived.Test.YtcelfeidckfmlaaProg
import Derived.Test.YtcelfeidckfmlaaSumMath
import Derived.WalkKit
import Derived.WalkSpells
import Derived.WalkLawsBesides
import Derived.Lib.Hide
namespace Go.Proofs.Ytcelfeidckfmlaa
open Go.RowKit CrcMath

theorem step_bits (x : Nat) (hx : x < 4294967296) :
    bits BinOp.xor IntKind.u32 (↑x / 2) (bits BinOp.and IntKind.u32 2197175160 (-bits BinOp.and IntKind.u32 (↑x) 1 % 4294967296)) = ((st x : Nat) : Int) := by
  have h1 : bits BinOp.and IntKind.u32 (↑x) 1 = ((x % 2 : Nat) : Int) := by
    have := u32_and_nat x 1 hx (by omega)
    rw [nat_mask1] at this
    exact this
  have h2 : ((x : Int) / 2) = ((x / 2 : Nat) : Int) := by omega
  rw [h1, h2]
  unfold st
  rcases Nat.mod_two_eq_zero_or_one x with h | h <;> rw [h]
  · have := u32_and_nat 2197175160 0 (by omega) (by omega)
    simp only [Nat.and_zero] at this
    rw [show (-((0 : Nat) : Int) % 4294967296) = ((0 : Nat) : Int) from by omega]
    rw [show (2197175160 : Int) = ((2197175160 : Nat) : Int) from rfl, this, u32_xor_nat _ _ (by omega) (by omega)]
    simp
  · have := u32_and_nat 2197175160 4294967295 (by omega) (by omega)
    rw [show (-((1 : Nat) : Int) % 4294967296) = ((4294967295 : Nat) : Int) from by omega]
    rw [show (2197175160 : Int) = ((2197175160 : Nat) : Int) from rfl, this, show (2197175160 &&& 4294967295 : Nat) = 2197175160 from by decide, u32_xor_nat _ _ (by omega) (by omega)]
    rfl

theorem ret_int {k : IntKind} {a b : Int} (h : a = b) : Ending.returned (.int k a) = .returned (.int k b) := by rw [h]

theorem xor_lt32 {a b : Nat} (ha : a < 4294967296) (hb : b < 4294967296) : a ^^^ b < 4294967296 := Nat.xor_lt_two_pow (n := 32) ha hb
theorem st_lt' {a : Nat} (ha : a < 4294967296) : st a < 4294967296 := st_lt (x := a) ha

theorem int_of_val {k : IntKind} {a b : Int} (h : a = b) : Value.int k a = .int k b := by rw [h]

set_option maxHeartbeats 400000 in
theorem times_any (a b : Int) (w : World) (ha0 : 0 ≤ a) (ha : a < 4294967296) (hb0 : 0 ≤ b) (hb : b < 4294967296) :
    Calls Try.prog 16 #[.int .u32 a, .int .u32 b] w fun e w' => e = .returned (.int .u32 (times a.toNat b.toNat : Nat)) ∧ w = w' := by
  obtain ⟨a, rfl⟩ := Int.eq_ofNat_of_zero_le ha0
  obtain ⟨b, rfl⟩ := Int.eq_ofNat_of_zero_le hb0
  simp only [Int.toNat_natCast]
  go_enter Try.func16, Try.ntmps16
  go_wp2
  go_loop [1, 5, 6] (fun b' o i => ∃ (n : Nat) (x y : Nat), n ≤ 32 ∧ i = .int .i64 ((n : Int) - 1) ∧ b' = .int .u32 x ∧ o = .int .u32 y ∧ x < 4294967296 ∧ y < 4294967296 ∧ Hid (y ^^^ act n a x = times a b)) (fun _ _ i => (intOf i + 1).toNat)
  case atStart => exact ⟨32, b, 0, by omega, rfl, rfl, rfl, by omega, by omega, by show 0 ^^^ act 32 a b = _; rw [Nat.zero_xor]; rfl⟩
  case round =>
    obtain ⟨n, x, y, hn, rfl, rfl, rfl, hx, hy, H⟩ := hrel
    by_cases h0 : n = 0
    · subst h0
      go_wp2
      go_ret
      have := H.out
      simp only [act, Nat.xor_zero] at this
      exact ⟨by rw [this]; rfl, rfl⟩
    · obtain ⟨m, rfl⟩ : ∃ m, n = m + 1 := ⟨n - 1, by omega⟩
      clear h0
      have hb1 : (bits BinOp.and IntKind.u32 (↑a / 2 ^ m) 1 == 1) = decide (a / 2 ^ m % 2 = 1) := by
        have h2 : ((a : Int) / 2 ^ m) = ((a / 2 ^ m : Nat) : Int) := by simp
        have h3 : a / 2 ^ m < 4294967296 := Nat.lt_of_le_of_lt (Nat.div_le_self _ _) (by omega)
        have := u32_and_nat (a / 2 ^ m) 1 h3 (by omega)
        rw [nat_mask1] at this
        rw [h2, show (1 : Int) = ((1 : Nat) : Int) from rfl, this]
        rw [Bool.eq_iff_iff]; simp; omega
      by_cases hbit : a / 2 ^ m % 2 = 1
      · have hb2 : (bits BinOp.and IntKind.u32 (↑a / 2 ^ m) 1 == 1) = true := by rw [hb1]; simp [hbit]
        clear hb1
        have HB := Lib.hid hbit; clear hbit
        go_wp2
        go_round
        case rel => exact ⟨m, st x, y ^^^ x, by omega, rfl, by rw [step_bits x hx], by rw [u32_xor_nat _ _ hy hx], st_lt' hx, xor_lt32 hy hx, by
          have := H.out; simp only [act] at this; rw [if_pos HB.out] at this; show _ = _; rw [Nat.xor_assoc]; exact this⟩
        case measure => simp [intOf]
      · have hb2 : (bits BinOp.and IntKind.u32 (↑a / 2 ^ m) 1 == 1) = false := by rw [hb1]; simp [hbit]
        clear hb1
        have HB := Lib.hid hbit; clear hbit
        go_wp2
        go_round
        case rel => exact ⟨m, st x, y, by omega, rfl, by rw [step_bits x hx], rfl, st_lt' hx, hy, by
          have := H.out; simp only [act] at this; rw [if_neg HB.out, Nat.zero_xor] at this; exact this⟩
        case measure => simp [intOf]

end Go.Proofs.Ytcelfeidckfmlaa
