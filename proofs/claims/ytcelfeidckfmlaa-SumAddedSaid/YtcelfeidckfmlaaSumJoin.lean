/- Package sum: Of and Join, and the law's own check, each at every input. -/
import Derived.Test.YtcelfeidckfmlaaSumWalks
namespace Go.Proofs.Ytcelfeidckfmlaa
open Go.RowKit CrcMath

theorem more_any (sum : Int) (s : ByteArray) (w : World) (h0 : 0 ≤ sum) (h : sum < 4294967296) (hs : s.size ≤ 9223372036854775807) :
    Calls Try.prog 12 #[.int .u32 sum, .string s] w fun e w' => e = .returned (.int .u32 (more sum.toNat s.data.toList : Nat)) ∧ Below w.heap.size w w' := by
  obtain ⟨m, rfl⟩ := Int.eq_ofNat_of_zero_le h0
  simp only [Int.toNat_natCast]
  exact more_nat m s w (by omega) hs

set_option maxHeartbeats 1000000 in
theorem of_any (s : ByteArray) (w : World) (hs : s.size ≤ 9223372036854775807) :
    Calls Try.prog 11 #[.string s] w fun e w' => e = .returned (.int .u32 (crc s.data.toList : Nat)) ∧ Below w.heap.size w w' := by
  go_enter Try.func11, Try.ntmps11
  go_wp2_with (go_at_call 12; refine (more_any _ _ _ (by omega) (by omega) hs).mono ?_; rintro e w' ⟨rfl, hb⟩)
  go_ret
  exact ⟨rfl, hb⟩

theorem join_step {q s n N : Nat} (h : q + s * n = N) (ho : n % 2 = 1) : q + s + 2 * s * (n / 2) = N := by
  obtain ⟨k, rfl⟩ : ∃ k, n = 2 * k + 1 := ⟨n / 2, by omega⟩
  rw [show (2 * k + 1) / 2 = k from by omega, ← h, Nat.mul_add, Nat.mul_one, Nat.mul_comm 2 s, Nat.mul_assoc]; omega
theorem join_step' {q s n N : Nat} (h : q + s * n = N) (ho : n % 2 = 0) : q + 2 * s * (n / 2) = N := by
  obtain ⟨k, rfl⟩ : ∃ k, n = 2 * k := ⟨n / 2, by omega⟩
  rw [show (2 * k) / 2 = k from by omega, ← h, Nat.mul_comm 2 s, Nat.mul_assoc]

theorem i64_odd (n : Nat) (hn : n < 9223372036854775808) : (bits BinOp.and IntKind.i64 (n : Int) 1 == 1) = decide (n % 2 = 1) := by
  have hb : bits BinOp.and IntKind.i64 (n : Int) 1 = ((n % 2 : Nat) : Int) := by
    have e1 : (BitVec.ofInt 64 (n : Int)).toNat = n := by
      rw [BitVec.ofInt_natCast, BitVec.toNat_ofNat]; exact Nat.mod_eq_of_lt (by omega)
    show IntKind.i64.wrap ((BitVec.ofInt 64 (n : Int) &&& BitVec.ofInt 64 (1 : Int)).toNat : Int) = _
    rw [BitVec.toNat_and, e1, show (BitVec.ofInt 64 1).toNat = 1 from by decide, nat_mask1, IntKind.wrap_i64]
    omega
  rw [hb, Bool.eq_iff_iff]; simp; omega

set_option maxRecDepth 100000 in
set_option maxHeartbeats 1000000 in
theorem join_nat (a b n : Nat) (w : World) (ha : a < 4294967296) (hb : b < 4294967296) (hn : n ≤ 1073741824) :
    Calls Try.prog 10 #[.int .u32 a, .int .u32 b, .int .i64 n] w fun e w' => e = .returned (.tuple #[.int .u32 (stn (8 * n) a ^^^ b : Nat), .int .i64 0]) ∧ w = w' := by
  have hg0 : decide ((n : Int) < 0) = false := by simp
  have hg1 : decide ((1073741824 : Int) < n) = false := by simp; omega
  go_enter Try.func10, Try.ntmps10
  go_wp2
  go_loop [2, 8, 9] (fun n' mv pw => ∃ k q s : Nat, k ≤ 1073741824 ∧ n' = .int .i64 k ∧ mv = .int .u32 (stn (8 * q) one : Nat) ∧ pw = .int .u32 (stn (8 * s) one : Nat) ∧ Hid (q + s * k = n)) (fun n' _ _ => (intOf n').toNat)
  case atStart => exact ⟨n, 0, 1, hn, rfl, rfl, by rw [show 8 * 1 = 8 from rfl, stn8_one]; rfl, by show 0 + 1 * n = n; omega⟩
  case round =>
    obtain ⟨k, q, s, hk, rfl, rfl, rfl, H⟩ := hrel
    have hmv : stn (8 * q) one < 4294967296 := stn_lt _ one_lt
    have hpw : stn (8 * s) one < 4294967296 := stn_lt _ one_lt
    have e1 := times_pows (8 * q) (8 * s)
    have e2 := times_pows (8 * s) (8 * s)
    rw [show 8 * q + 8 * s = 8 * (q + s) from by omega] at e1
    rw [show 8 * s + 8 * s = 8 * (2 * s) from by omega] at e2
    have e3 := times_pow (8 * q) (a := a) ha
    have E1 := Lib.hid e1; have E2 := Lib.hid e2; have E3 := Lib.hid e3; clear e1 e2 e3
    generalize hM : stn (8 * q) one = M at hmv E1 E3 ⊢
    generalize hP : stn (8 * s) one = P at hpw E1 E2 ⊢
    have HM := Lib.hid hM; have HP := Lib.hid hP; clear hM hP
    have t1 := i64_odd k (by omega)
    by_cases h0 : k = 0
    · subst h0
      clear t1
      have hq : q = n := by have := H.out; omega
      have HQ := Lib.hid hq; clear hq H
      go_wp2_with (go_at_call 16; refine (times_any _ _ _ (by omega) (by omega) (by omega) (by omega)).mono ?_; rintro e w' ⟨rfl, rfl⟩)
      go_ret2
      refine ⟨?_, by first | rfl | trivial⟩
      have hx : stn (8 * q) a < 4294967296 := stn_lt _ ha
      have := u32_xor_nat _ _ hx hb
      rw [E3.out, ← HQ.out, this]
      rfl
    · have hk0 : (0 : Int) < k := by omega
      rcases Nat.mod_two_eq_zero_or_one k with ho | ho
      · rw [ho] at t1
        have hs := join_step' H.out ho
        have HS := Lib.hid hs; clear hs ho H
        have t2 : (bits BinOp.and IntKind.i64 (k : Int) 1 == 1) = false := t1
        clear t1
        go_wp2_with (go_at_call 16; refine (times_any _ _ _ (by omega) (by omega) (by omega) (by omega)).mono ?_; rintro e w' ⟨rfl, rfl⟩)
        go_round
        case rel => exact ⟨k / 2, q, 2 * s, by omega, rfl, by rw [HM.out], by rw [← E2.out], HS.out⟩
        case measure => simp [intOf]; omega
      · rw [ho] at t1
        have hs := join_step H.out ho
        have HS := Lib.hid hs; clear hs ho H
        have t2 : (bits BinOp.and IntKind.i64 (k : Int) 1 == 1) = true := t1
        clear t1
        go_wp2_with (go_at_call 16; refine (times_any _ _ _ (by omega) (by omega) (by omega) (by omega)).mono ?_; rintro e w' ⟨rfl, rfl⟩)
        go_round
        case rel => exact ⟨k / 2, q + s, 2 * s, by omega, rfl, by rw [← E1.out], by rw [← E2.out], HS.out⟩
        case measure => simp [intOf]; omega


theorem join_any (a b n : Int) (w : World) (ha0 : 0 ≤ a) (ha : a < 4294967296) (hb0 : 0 ≤ b) (hb : b < 4294967296) (hn0 : 0 ≤ n) (hn : n ≤ 1073741824) :
    Calls Try.prog 10 #[.int .u32 a, .int .u32 b, .int .i64 n] w fun e w' => e = .returned (.tuple #[.int .u32 (stn (8 * n.toNat) a.toNat ^^^ b.toNat : Nat), .int .i64 0]) ∧ w = w' := by
  obtain ⟨a, rfl⟩ := Int.eq_ofNat_of_zero_le ha0
  obtain ⟨b, rfl⟩ := Int.eq_ofNat_of_zero_le hb0
  obtain ⟨n, rfl⟩ := Int.eq_ofNat_of_zero_le hn0
  simp only [Int.toNat_natCast]
  exact join_nat a b n w (by omega) (by omega) (by omega)

set_option maxHeartbeats 1000000 in
theorem join_no (a b n : Int) (w : World) (hn : n < 0 ∨ 1073741824 < n) :
    Calls Try.prog 10 #[.int .u32 a, .int .u32 b, .int .i64 n] w fun e w' => e = .returned (.tuple #[.int .u32 0, .int .i64 2]) ∧ w = w' := by
  by_cases h : n < 0
  · clear hn
    go_enter Try.func10, Try.ntmps10
    go_wp2
    go_ret2
    exact ⟨rfl, rfl⟩
  · have h2 : 1073741824 < n := by omega
    have h3 : decide (n < 0) = false := by simp; omega
    clear hn h
    go_enter Try.func10, Try.ntmps10
    go_wp2
    go_ret2
    exact ⟨rfl, rfl⟩

theorem crc_nine : crc [49, 50, 51, 52, 53, 54, 55, 56, 57] = 3808858755 := by decide +kernel
theorem crc_works : stn (8 * 5) (crc [49, 50, 51, 52]) ^^^ crc [53, 54, 55, 56, 57] = 3808858755 := by decide +kernel

set_option maxRecDepth 100000 in
set_option maxHeartbeats 1000000 in
theorem sumWorks_any (w : World) :
    Calls Try.prog 9 #[] w fun e w' => e = .returned (.bool true) ∧ Below w.heap.size w w' := by
  have h1 := crc_lt [49, 50, 51, 52]
  have h2 := crc_lt [53, 54, 55, 56, 57]
  go_enter Try.func9, Try.ntmps9
  go_wp2_with fail
  refine (of_any _ _ (by decide)).mono ?_
  rintro e w1 ⟨rfl, hb1⟩
  go_wp2_with fail
  refine (of_any _ _ (by decide)).mono ?_
  rintro e w2 ⟨rfl, hb2⟩
  go_wp2_with fail
  refine (join_any _ _ _ _ (by omega) (by omega) (by omega) (by omega) (by omega) (by omega)).mono ?_
  rintro e w3 ⟨rfl, rfl⟩
  simp only [Int.toNat_natCast]
  rw [show (5 : Int).toNat = 5 from rfl, crc_works]
  go_wp2_with fail
  refine (of_any _ _ (by decide)).mono ?_
  rintro e w3 ⟨rfl, hb3⟩
  simp only []
  rw [crc_nine]
  go_wp2
  go_ret
  exact ⟨rfl, (hb1.trans (hb2.mono hb1.size)).trans (hb3.mono (Nat.le_trans hb1.size hb2.size))⟩

end Go.Proofs.Ytcelfeidckfmlaa
