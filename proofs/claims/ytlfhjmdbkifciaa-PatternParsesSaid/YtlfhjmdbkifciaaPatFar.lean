/- The document's search for a sign: how far the 256 signs go. -/
import Derived.Test.YtlfhjmdbkifciaaPatMath
namespace Go.Proofs.Ytlfhjmdbkifciaa.PM

/-- how far the signs of the bytes below a number go -/
def far (l : List UInt8) : Nat → Nat
  | 0 => 0
  | c + 1 => max (far l c) (lcp (sign (UInt8.ofNat c)) l)

theorem far_le {l : List UInt8} {k : Nat} (h : step l = .bad k) : ∀ c, far l c ≤ k
  | 0 => Nat.zero_le _
  | c + 1 => by
    simp only [far]
    have := far_le h c
    have := (step_bad_le h (UInt8.ofNat c)).1
    omega

theorem far_ge (l : List UInt8) (c : Nat) : ∀ n, c < n → lcp (sign (UInt8.ofNat c)) l ≤ far l n
  | n + 1, h => by
    simp only [far]
    rcases Nat.lt_or_ge c n with h1 | h1
    · have := far_ge l c n h1; omega
    · obtain rfl : c = n := by omega
      omega

theorem far_bad {l : List UInt8} {k : Nat} (h : step l = .bad k) : far l 256 = k := by
  have h1 := far_le h 256
  rcases Nat.eq_zero_or_pos k with rfl | hk
  · omega
  · obtain ⟨c, hc⟩ := step_bad_far h hk
    have h2 := far_ge l c.toNat 256 c.toNat_lt
    rw [show UInt8.ofNat c.toNat = c from u8_eq (toNat_ofNat c.toNat_lt), hc] at h2
    omega

theorem lcp_step (a b : UInt8) (r t : List UInt8) : lcp (a :: r) (b :: t) = if a = b then lcp r t + 1 else 0 := rfl
theorem lcp_nil_right : ∀ a : List UInt8, lcp a [] = 0
  | [] => rfl
  | _ :: _ => rfl

/-- a byte whose sign is whole there is the one read -/
theorem full_ok {c : UInt8} {l : List UInt8} (h : lcp (sign c) l = (sign c).length) : step l = .ok c (sign c).length := by
  have := lcp_full _ _ h
  rw [this]; exact step_sign c _
/-- where none below is whole, and one is read, it is not below -/
theorem ok_full {l : List UInt8} {c : UInt8} {n : Nat} (h : step l = .ok c n) : lcp (sign c) l = (sign c).length := by
  obtain ⟨h1, h2⟩ := step_ok h
  rw [h2]; exact lcp_self_append _ _
theorem none_bad {l : List UInt8} (h : ∀ c, c < 256 → lcp (sign (UInt8.ofNat c)) l ≠ (sign (UInt8.ofNat c)).length) : ∃ k, step l = .bad k := by
  cases hs : step l with
  | bad k => exact ⟨k, rfl⟩
  | ok c n =>
    have := h c.toNat c.toNat_lt
    rw [show UInt8.ofNat c.toNat = c from u8_eq (toNat_ofNat c.toNat_lt)] at this
    exact absurd (ok_full hs) this
end Go.Proofs.Ytlfhjmdbkifciaa.PM
