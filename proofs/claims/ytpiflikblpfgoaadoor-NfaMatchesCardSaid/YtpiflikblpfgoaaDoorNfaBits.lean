/- A number's lowest bit, in plain words. -/
import Derived.Test.YtpiflikblpfgoaaDoorPatNode
import Derived.Lib.TrailingZeros
namespace Go.Proofs.YtpiflikblpfgoaaDoor.PM

/-- a set of places as a number -/
def B64 (p : Nat → Bool) : Nat := bitsOf p 64
theorem B64_lt (p : Nat → Bool) : B64 p < 18446744073709551616 := bitsOf_lt _ 64
theorem B64_test (p : Nat → Bool) (k : Nat) : (B64 p).testBit k = (decide (k < 64) && p k) := bitsOf_test p 64 k
theorem B64_eq {p : Nat → Bool} {x : Nat} (h : ∀ k, x.testBit k = (decide (k < 64) && p k)) : x = B64 p := Nat.eq_of_testBit_eq fun k => by rw [h, B64_test]
theorem B64_congr {p q : Nat → Bool} (h : ∀ k, k < 64 → p k = q k) : B64 p = B64 q := B64_eq fun k => by rw [B64_test]; by_cases hk : k < 64 <;> simp [hk, h]
theorem B64_or (p q : Nat → Bool) : B64 p ||| B64 q = B64 fun k => p k || q k := B64_eq fun k => by rw [Nat.testBit_or, B64_test, B64_test]; by_cases hk : k < 64 <;> simp [hk]
theorem B64_and (p q : Nat → Bool) : B64 p &&& B64 q = B64 fun k => p k && q k := B64_eq fun k => by rw [Nat.testBit_and, B64_test, B64_test]; by_cases hk : k < 64 <;> simp [hk]
theorem B64_none : B64 (fun _ => false) = 0 := (B64_eq (x := 0) fun k => by simp).symm
theorem B64_zero_iff (p : Nat → Bool) : B64 p = 0 ↔ ∀ k, k < 64 → p k = false := by
  constructor
  · intro h k hk
    have := B64_test p k
    rw [h, Nat.zero_testBit] at this
    simpa [hk] using this.symm
  · intro h
    rw [← B64_none]; exact B64_congr h
theorem B64_one {i : Nat} (h : i < 64) : 2 ^ i = B64 fun k => k == i := B64_eq fun k => by
  rw [Nat.testBit_two_pow]
  by_cases hk : k < 64
  · simp only [hk, decide_true, Bool.true_and]
    by_cases e : i = k
    · subst e; simp
    · have : ¬ k = i := fun x => e x.symm
      simp [e, this]
  · have : ¬ i = k := by omega
    simp [hk, this]
theorem B64_ne_zero {p : Nat → Bool} : B64 p ≠ 0 ↔ ∃ k, k < 64 ∧ p k = true := by
  rw [Ne, B64_zero_iff]
  constructor
  · intro h
    refine Classical.byContradiction fun hn => h fun k hk => ?_
    cases hp : p k with
    | false => rfl
    | true => exact absurd ⟨k, hk, hp⟩ hn
  · rintro ⟨k, hk, hp⟩ h
    rw [h k hk] at hp; cases hp

/-- the lowest bit, and the number without it -/
theorem low_bit {x : Nat} (h0 : x ≠ 0) (hx : x < 18446744073709551616) : Lib.ctz 64 x < 64 ∧ x.testBit (Lib.ctz 64 x) = true ∧ (∀ j, (x &&& (x - 1)).testBit j = (x.testBit j && j != Lib.ctz 64 x)) ∧ x &&& (x - 1) < x := by
  have hc : Lib.ctz 64 x = Lib.ctzFrom 64 x := by unfold Lib.ctz; rw [if_neg h0]
  obtain ⟨m, hm, hk⟩ := Lib.ctzFrom_spec 64 x (by omega) hx
  rw [hc]
  generalize Lib.ctzFrom 64 x = k at *
  have hp : 0 < 2 ^ k := Nat.two_pow_pos k
  have hx1 : x = 2 ^ k * (2 * m + 1) + 0 := by omega
  have hx2 : x - 1 = 2 ^ k * (2 * m) + (2 ^ k - 1) := by
    rw [hm, Nat.mul_add, Nat.mul_one]; omega
  have t1 : ∀ j, x.testBit j = if j < k then false else (2 * m + 1).testBit (j - k) := fun j => by
    rw [hx1, Nat.testBit_two_pow_mul_add _ hp]; split <;> simp
  have t2 : ∀ j, (x - 1).testBit j = if j < k then true else (2 * m).testBit (j - k) := fun j => by
    rw [hx2, Nat.testBit_two_pow_mul_add _ (by omega)]
    split
    · rename_i h; rw [Nat.testBit_two_pow_sub_one]; simpa using h
    · rfl
  refine ⟨hk, ?_, fun j => ?_, ?_⟩
  · rw [t1]; simp [Nat.testBit_zero]
  · rw [Nat.testBit_and, t1, t2]
    by_cases hj : j < k
    · simp [hj]
    · rw [if_neg hj, if_neg hj]
      by_cases e : j = k
      · subst e; simp [Nat.testBit_zero]
      · obtain ⟨d, hd⟩ : ∃ d, j - k = d + 1 := ⟨j - k - 1, by omega⟩
        have e2 : (j != k) = true := by simpa using e
        rw [hd, Nat.testBit_succ, Nat.testBit_succ, e2, show (2 * m + 1) / 2 = m by omega, show 2 * m / 2 = m by omega]
        simp
  · have := Nat.and_le_right (n := x) (m := x - 1)
    omega
theorem B64_low {p : Nat → Bool} (h0 : B64 p ≠ 0) : Lib.ctz 64 (B64 p) < 64 ∧ p (Lib.ctz 64 (B64 p)) = true ∧ B64 p &&& (B64 p - 1) = B64 (fun q => p q && q != Lib.ctz 64 (B64 p)) ∧ B64 (fun q => p q && q != Lib.ctz 64 (B64 p)) < B64 p := by
  obtain ⟨h1, h2, h3, h4⟩ := low_bit h0 (B64_lt p)
  have e : B64 p &&& (B64 p - 1) = B64 (fun q => p q && q != Lib.ctz 64 (B64 p)) := B64_eq fun k => by
    rw [h3, B64_test]
    by_cases hk : k < 64 <;> simp [hk]
  refine ⟨h1, ?_, e, by rw [← e]; exact h4⟩
  rw [B64_test] at h2
  simpa [h1] using h2
end Go.Proofs.YtpiflikblpfgoaaDoor.PM
