/- The document's register (dragomanref02): its step, the sum of bytes, the moved number: every input. -/
import Derived.Test.YtcgojpdgcoddnaaSumBase
namespace Go.Proofs.Ytcgojpdgcoddnaa
open Go.RowKit CrcMath

theorem st_bit {x b : Nat} (hb : b < 2) : st (x ^^^ b) = (x / 2) ^^^ (if (x + b) % 2 = 1 then poly else 0) := by
  unfold st
  rw [xor_div_two, xor_mod_two]
  rw [show b / 2 = 0 from by omega, Nat.xor_zero, show (x % 2 + b % 2) % 2 = (x + b) % 2 from by omega]

set_option maxHeartbeats 400000 in
theorem refStep_any (x b : Int) (w : World) (hx0 : 0 ≤ x) (hx : x < 4294967296) (hb0 : 0 ≤ b) (hb : b < 2) :
    Calls Try.prog 29 #[.int .u32 x, .int .u32 b] w fun e w' => e = .returned (.int .u32 (st (x.toNat ^^^ b.toNat) : Nat)) ∧ w = w' := by
  obtain ⟨x, rfl⟩ := Int.eq_ofNat_of_zero_le hx0
  obtain ⟨b, rfl⟩ := Int.eq_ofNat_of_zero_le hb0
  simp only [Int.toNat_natCast]
  have hB := st_bit (x := x) (b := b) (by omega)
  have HB := Lib.hid hB; clear hB
  by_cases h : (x + b) % 2 = 1
  · have h2 : (((x : Int) + b) % 4294967296 % 2 == 1) = true := by rw [beq_iff_eq]; omega
    have h3 : (((x : Int) + b) % 2 == 1) = true := by rw [beq_iff_eq]; omega
    have H := Lib.hid h; clear h
    go_enter Try.func29, Try.ntmps29
    go_wp2
    go_ret
    refine ⟨?_, rfl⟩
    rw [HB.out, if_pos H.out]
    have := u32_xor_nat (x / 2) poly (by omega) (by decide)
    rw [← this]; simp [poly]
  · have h2 : (((x : Int) + b) % 4294967296 % 2 == 1) = false := by rw [beq_eq_false_iff_ne]; omega
    have h3 : (((x : Int) + b) % 2 == 1) = false := by rw [beq_eq_false_iff_ne]; omega
    have H := Lib.hid h; clear h
    go_enter Try.func29, Try.ntmps29
    go_wp2
    go_ret
    refine ⟨?_, rfl⟩
    rw [HB.out, if_neg H.out]
    simp


theorem bits_in_lt {n b : Nat} (h : b < 2 ^ (n + 1)) : b / 2 < 2 ^ n := by rw [Nat.pow_succ] at h; omega

/-- '^x' of a uint32 -/
def notU (n : Int) : Int := bits .xor .u32 4294967295 n
theorem unary_xor_u32 (n : Int) : Op.unary .xor (.int .u32 n) = (pure (.int .u32 (notU n)) : Sem Value) := rfl
theorem notU_nat (x : Nat) (hx : x < 4294967296) : notU x = ((x ^^^ ones : Nat) : Int) := by
  have := u32_xor_nat 4294967295 x (by omega) hx
  unfold notU
  rw [show (4294967295 : Int) = ((4294967295 : Nat) : Int) from rfl, this, Nat.xor_comm]; rfl
attribute [local go_sem 10000] unary_xor_u32

theorem take_snoc (s : ByteArray) (k : Nat) (h : k < s.size) : s.data.toList.take (k + 1) = s.data.toList.take k ++ [s[k]] := by
  rw [List.take_succ_eq_append_getElem (by simpa using h)]; rfl

theorem reg_snoc (x : Nat) (l : List UInt8) (c : UInt8) : reg x (l ++ [c]) = stn 8 (reg x l ^^^ c.toNat) := by rw [reg_append]; rfl

theorem u32_wf {n : Nat} (h : n < 2 ^ 32) : n < 4294967296 := h

set_option maxRecDepth 100000 in
set_option maxHeartbeats 1000000 in
theorem refMore_any (sum : Int) (s : ByteArray) (w : World) (h0 : 0 ≤ sum) (h : sum < 4294967296) (hs : s.size ≤ 9223372036854775807) :
    Calls Try.prog 26 #[.int .u32 sum, .string s] w fun e w' => e = .returned (.int .u32 (more sum.toNat s.data.toList : Nat)) ∧ w = w' := by
  obtain ⟨m, rfl⟩ := Int.eq_ofNat_of_zero_le h0
  simp only [Int.toNat_natCast]
  replace h : m < 4294967296 := by omega
  clear h0
  go_enter Try.func26, Try.ntmps26
  go_wp2
  go_loop [5, 6] (fun x i => ∃ k : Nat, k ≤ s.size ∧ i = .int .i64 k ∧ x = .int .u32 (reg (m ^^^ ones) (s.data.toList.take k) : Nat)) (fun _ i => s.size - (intOf i).toNat)
  case atStart => exact ⟨0, Nat.zero_le _, rfl, by rw [notU_nat m (by omega)]; simp [reg]⟩
  case round =>
    obtain ⟨k, hk, rfl, rfl⟩ := hrel
    by_cases hlt : k < s.size
    · have hreg : reg (m ^^^ ones) (s.data.toList.take k) < 4294967296 := reg_lt _ (xor_lt32 (by omega) (by decide))
      have hsn := reg_snoc (m ^^^ ones) (s.data.toList.take k) s[k]
      rw [← take_snoc s k hlt] at hsn
      have HS := Lib.hid hsn; clear hsn
      have hc : s[k].toNat < 256 := s[k].toNat_lt
      generalize reg (m ^^^ ones) (s.data.toList.take k) = X at hreg HS ⊢
      go_wp2
      go_loop [5, 7, 8] (fun x b j => ∃ n xn bn : Nat, n ≤ 8 ∧ j = .int .i64 (8 - (n : Int)) ∧ x = .int .u32 xn ∧ b = .int .u32 bn ∧ xn < 4294967296 ∧ bn < 256 ∧ Hid (bn < 2 ^ n) ∧ Hid (bitsIn n xn bn = stn 8 (X ^^^ s[k].toNat))) (fun _ _ j => (8 - intOf j).toNat)
      case atStart => exact ⟨8, X, s[k].toNat, by omega, rfl, rfl, rfl, hreg, hc, hc, bitsIn_eq 8 _ _ hc⟩
      case round =>
        obtain ⟨n, xn, bn, hn, rfl, rfl, rfl, hxn, hbn, H1, H2⟩ := hrel
        rcases Nat.eq_zero_or_pos n with h0 | h0
        · subst h0
          go_wp2
          go_round
          case rel => exact ⟨k + 1, by omega, by go_num, by rw [HS.out, ← H2.out]; rfl⟩
          case measure => simp [intOf]; omega
        · obtain ⟨q, rfl⟩ : ∃ q, n = q + 1 := ⟨n - 1, by omega⟩
          clear h0
          have hbn2 : bn / 2 < 256 := by omega
          go_wp2_with (go_at_call 29; refine (refStep_any _ _ _ (by omega) (by omega) (by omega) (by omega)).mono ?_; rintro e w' ⟨rfl, rfl⟩)
          go_round
          case rel => exact ⟨q, st (xn ^^^ (bn % 2)), bn / 2, by omega, by go_num, by go_num, by go_num, st_lt' (xor_lt32 hxn (by omega)), hbn2, bits_in_lt H1.out, H2.out⟩
          case measure => simp [intOf]; omega
    · have hke : k = s.size := by omega
      have hrg : reg (m ^^^ ones) (s.data.toList.take k) = reg (m ^^^ ones) s.data.toList := by rw [List.take_of_length_le (by simp; omega)]
      rw [hrg]
      have hreg : reg (m ^^^ ones) s.data.toList < 4294967296 := reg_lt _ (xor_lt32 (by omega) (by decide))
      clear hrg hke
      go_wp2
      go_ret
      exact ⟨ret_int (notU_nat _ hreg), rfl⟩

set_option maxHeartbeats 1000000 in
theorem refOf_any (s : ByteArray) (w : World) (hs : s.size ≤ 9223372036854775807) :
    Calls Try.prog 21 #[.string s] w fun e w' => e = .returned (.int .u32 (crc s.data.toList : Nat)) ∧ w = w' := by
  go_enter Try.func21, Try.ntmps21
  go_wp2_with (go_at_call 26; refine (refMore_any _ _ _ (by omega) (by omega) hs).mono ?_; rintro e w' ⟨rfl, rfl⟩)
  go_ret
  exact ⟨rfl, rfl⟩

end Go.Proofs.Ytcgojpdgcoddnaa
