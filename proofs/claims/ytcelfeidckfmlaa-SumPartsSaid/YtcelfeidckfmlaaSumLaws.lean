/- The laws SumKnown, SumOfs, SumJoins and SumParts return true at every input: their walks. -/
import Derived.Test.YtcelfeidckfmlaaSumJoin
namespace Go.Proofs.Ytcelfeidckfmlaa
open Go.RowKit CrcMath

theorem crc_none : crc [] = 0 := by decide +kernel
theorem crc_a : crc [97] = 3251651376 := by decide +kernel
theorem crc_on : more (crc [49, 50, 51, 52]) [53, 54, 55, 56, 57] = 3808858755 := by decide +kernel

set_option maxRecDepth 100000 in
set_option maxHeartbeats 1000000 in
theorem sumKnown_walk (w : World) :
    Calls Try.prog 3 #[] w fun e w' => e = .returned (.bool true) ∧ Below w.heap.size w w' := by
  have h1 := crc_lt [49, 50, 51, 52]
  go_enter Try.func3, Try.ntmps3
  go_wp2_with fail
  refine (sumWorks_any _).mono ?_
  rintro e w1 ⟨rfl, hb1⟩
  go_wp2_with fail
  refine (join_no _ _ _ _ (by omega)).mono ?_
  rintro e w2 ⟨rfl, rfl⟩
  go_wp2_with fail
  refine (join_no _ _ _ _ (by omega)).mono ?_
  rintro e w2 ⟨rfl, rfl⟩
  go_wp2_with fail
  refine (join_any _ _ _ _ (by omega) (by omega) (by omega) (by omega) (by omega) (by omega)).mono ?_
  rintro e w2 ⟨rfl, rfl⟩
  simp only []
  rw [show (stn (8 * (0 : Int).toNat) (5 : Int).toNat ^^^ (3 : Int).toNat) = 6 from by decide]
  go_wp2_with fail
  refine (of_any _ _ (by decide)).mono ?_
  rintro e w2 ⟨rfl, hb2⟩
  simp only []
  rw [crc_none]
  go_wp2_with fail
  refine (of_any _ _ (by decide)).mono ?_
  rintro e w3 ⟨rfl, hb3⟩
  simp only []
  rw [crc_a]
  go_wp2_with fail
  refine (of_any _ _ (by decide)).mono ?_
  rintro e w4 ⟨rfl, hb4⟩
  go_wp2_with fail
  refine (more_any _ _ _ (by omega) (by omega) (by decide)).mono ?_
  rintro e w5 ⟨rfl, hb5⟩
  simp only [Int.toNat_natCast]
  rw [crc_on]
  go_wp2
  go_ret
  have z2 := hb1.trans (hb2.mono hb1.size)
  have z3 := z2.trans (hb3.mono z2.size)
  have z4 := z3.trans (hb4.mono z3.size)
  exact ⟨rfl, z4.trans (hb5.mono z4.size)⟩

set_option maxRecDepth 100000 in
set_option maxHeartbeats 1000000 in
theorem sumOfs_walk (s : ByteArray) (m : Nat) (w : World) (hs : s.size ≤ 9223372036854775807) (hm : m < 4294967296) :
    Calls Try.prog 4 #[.string s, .int .u32 m] w fun e w' => e = .returned (.bool true) ∧ Below w.heap.size w w' := by
  by_cases h3 : s.size ≤ 3000
  · have hd : decide (3000 < (s.size : Int)) = false := by simp; omega
    clear h3
    go_enter Try.func4, Try.ntmps4
    go_wp2_with fail
    refine (sumWorks_any _).mono ?_
    rintro e w1 ⟨rfl, hb1⟩
    go_wp2_with fail
    refine (of_any _ _ hs).mono ?_
    rintro e w2 ⟨rfl, hb2⟩
    go_wp2_with fail
    refine (refOf_any _ _ hs).mono ?_
    rintro e w3 ⟨rfl, rfl⟩
    go_wp2_with fail
    refine (more_any _ _ _ (by omega) (by omega) hs).mono ?_
    rintro e w3 ⟨rfl, hb3⟩
    go_wp2_with fail
    refine (refMore_any _ _ _ (by omega) (by omega) hs).mono ?_
    rintro e w4 ⟨rfl, rfl⟩
    go_wp2
    go_ret
    have z2 := hb1.trans (hb2.mono hb1.size)
    exact ⟨by simp, z2.trans (hb3.mono z2.size)⟩
  · have hd : decide (3000 < (s.size : Int)) = true := by simp; omega
    clear h3
    go_enter Try.func4, Try.ntmps4
    go_wp2_with fail
    refine (sumWorks_any _).mono ?_
    rintro e w1 ⟨rfl, hb1⟩
    go_wp2
    go_ret
    exact ⟨rfl, hb1⟩

set_option maxRecDepth 100000 in
set_option maxHeartbeats 1000000 in
theorem sumJoins_walk (a b : Nat) (n : Int) (w : World) (ha : a < 4294967296) (hb : b < 4294967296) :
    Calls Try.prog 5 #[.int .u32 a, .int .u32 b, .int .i64 n] w fun e w' => e = .returned (.bool true) ∧ Below w.heap.size w w' := by
  go_enter Try.func5, Try.ntmps5
  go_wp2_with fail
  refine (sumWorks_any _).mono ?_
  rintro e w1 ⟨rfl, hb1⟩
  go_wp2_with fail
  by_cases hn0 : n < 0
  · refine (join_no _ _ _ _ (Or.inl hn0)).mono ?_
    rintro e w2 ⟨rfl, rfl⟩
    go_wp2
    go_ret
    exact ⟨rfl, hb1⟩
  · have hd0 : decide (n < 0) = false := by simp; omega
    by_cases hn1 : 1073741824 < n
    · refine (join_no _ _ _ _ (Or.inr hn1)).mono ?_
      rintro e w2 ⟨rfl, rfl⟩
      go_wp2
      go_ret
      exact ⟨rfl, hb1⟩
    · have hd1 : decide (1073741824 < n) = false := by simp; omega
      obtain ⟨n, rfl⟩ := Int.eq_ofNat_of_zero_le (show 0 ≤ n by omega)
      replace hn1 : n ≤ 1073741824 := by omega
      clear hn0
      refine (join_any _ _ _ _ (by omega) (by omega) (by omega) (by omega) (by omega) (by omega)).mono ?_
      rintro e w2 ⟨rfl, rfl⟩
      simp only [Int.toNat_natCast]
      have hX : stn (8 * n) a < 4294967296 := stn_lt _ ha
      by_cases h3 : n ≤ 3000
      · have hd : decide (3000 < (n : Int)) = false := by simp; omega
        go_wp2_with fail
        refine (refJoin_any _ _ _ _ (by omega) (by omega) (by omega) (by omega) (by omega) (by omega)).mono ?_
        rintro e w2 ⟨rfl, rfl⟩
        go_wp2
        go_ret
        exact ⟨by simp, hb1⟩
      · have hd : decide (3000 < (n : Int)) = true := by simp; omega
        clear h3
        go_wp2_with fail
        refine (join_any _ _ _ _ (by omega) (by omega) (by omega) (by omega) (by omega) (by omega)).mono ?_
        rintro e w2 ⟨rfl, rfl⟩
        go_wp2_with fail
        have hX2 : stn (8 * (n / 2)) a < 4294967296 := stn_lt _ ha
        refine (join_any _ _ _ _ (by omega) (by omega) (by omega) (by omega) (by omega) (by omega)).mono ?_
        rintro e w2 ⟨rfl, rfl⟩
        simp only []
        rw [show (stn (8 * ((n : Int) - n / 2).toNat) ((stn (8 * (n / 2)) a : Nat) : Int).toNat ^^^ (b : Int).toNat) = stn (8 * n) a ^^^ b from by
          rw [Int.toNat_natCast, Int.toNat_natCast, show ((n : Int) - n / 2).toNat = n - n / 2 from by omega, ← stn_add, show 8 * (n / 2) + 8 * (n - n / 2) = 8 * n from by omega]]
        go_wp2
        go_ret
        exact ⟨by simp, hb1⟩

theorem concat_data (s t : ByteArray) : (s ++ t).data.toList = s.data.toList ++ t.data.toList := by
  rw [ByteArray.data_append, Array.toList_append]

set_option maxRecDepth 100000 in
set_option maxHeartbeats 1000000 in
theorem sumParts_walk (s t : ByteArray) (w : World) (hs : s.size ≤ 9223372036854775807) (ht : t.size ≤ 9223372036854775807) :
    Calls Try.prog 6 #[.string s, .string t] w fun e w' => e = .returned (.bool true) ∧ Below w.heap.size w w' := by
  by_cases h3 : s.size ≤ 3000
  · have hd : decide (3000 < (s.size : Int)) = false := by simp; omega
    by_cases h4 : t.size ≤ 3000
    · have hd2 : decide (3000 < (t.size : Int)) = false := by simp; omega
      go_enter Try.func6, Try.ntmps6
      go_wp2_with fail
      refine (sumWorks_any _).mono ?_
      rintro e w1 ⟨rfl, hb1⟩
      go_wp2_with fail
      refine (of_any _ _ hs).mono ?_
      rintro e w2 ⟨rfl, hb2⟩
      go_wp2_with fail
      refine (of_any _ _ ht).mono ?_
      rintro e w3 ⟨rfl, hb3⟩
      have k1 := crc_lt s.data.toList
      have k2 := crc_lt t.data.toList
      go_wp2_with fail
      refine (join_any _ _ _ _ (by omega) (by omega) (by omega) (by omega) (by omega) (by omega)).mono ?_
      rintro e w4 ⟨rfl, rfl⟩
      simp only [Int.toNat_natCast]
      rw [show (8 * t.size) = 8 * t.data.toList.length from rfl, ← crc_append]
      have hz := concat_data s t
      have hsz : (s ++ t).size ≤ 9223372036854775807 := by rw [ByteArray.size_append]; omega
      go_wp2_with fail
      refine (of_any _ _ hsz).mono ?_
      rintro e w4 ⟨rfl, hb4⟩
      simp only [hz]
      go_wp2_with fail
      refine (of_any _ _ hs).mono ?_
      rintro e w5 ⟨rfl, hb5⟩
      go_wp2_with fail
      refine (more_any _ _ _ (by omega) (by omega) ht).mono ?_
      rintro e w6 ⟨rfl, hb6⟩
      simp only [Int.toNat_natCast]
      rw [show more (crc s.data.toList) t.data.toList = crc (s.data.toList ++ t.data.toList) from more_more 0 _ _]
      go_wp2
      go_ret
      have z2 := hb1.trans (hb2.mono hb1.size)
      have z3 := z2.trans (hb3.mono z2.size)
      have z4 := z3.trans (hb4.mono z3.size)
      have z5 := z4.trans (hb5.mono z4.size)
      exact ⟨by simp, z5.trans (hb6.mono z5.size)⟩
    · have hd2 : decide (3000 < (t.size : Int)) = true := by simp; omega
      go_enter Try.func6, Try.ntmps6
      go_wp2_with fail
      refine (sumWorks_any _).mono ?_
      rintro e w1 ⟨rfl, hb1⟩
      go_wp2
      go_ret
      exact ⟨rfl, hb1⟩
  · have hd : decide (3000 < (s.size : Int)) = true := by simp; omega
    go_enter Try.func6, Try.ntmps6
    go_wp2_with fail
    refine (sumWorks_any _).mono ?_
    rintro e w1 ⟨rfl, hb1⟩
    go_wp2
    go_ret
    exact ⟨rfl, hb1⟩

end Go.Proofs.Ytcelfeidckfmlaa
