/- PatternNames: the limits, and the examples at them. -/
import Derived.Test.YtlfhjmdbkifciaaPatQuotes
namespace Go.Proofs.Ytlfhjmdbkifciaa
open Go.RowKit PM

theorem two_after (w : World) (o : Obj) (X : Array Value) : ((w.alloc o).alloc (.cells X TSp)).heap[w.heap.size + 1]? = some (.cells X TSp (0, 0)) ∧ Below w.heap.size w ((w.alloc o).alloc (.cells X TSp)) := by
  have h := heap_alloc_new (w.alloc o) (.cells X TSp)
  rw [World.size_alloc] at h
  exact ⟨h, below_then (below_new w o) (below_new _ _) (Nat.le_refl _)⟩
theorem names_parse : parse ([103, 108, 111, 98, 32, 34] ++ List.replicate 64 97 ++ [97, 34]) = .bad 3 70 := by kernel_rfl
theorem names_ok : ∃ t, tree 1 (List.replicate 64 97) = .ok t := by
  unfold tree
  rw [if_neg (by omega), if_neg (by simp), if_pos rfl]
  exact ⟨_, rfl⟩
theorem names_long : tree 1 (List.replicate 64 97 ++ [97]) = .long := by unfold tree; simp
theorem names_arg (l : List UInt8) : tree 4 l = .arg := by unfold tree; simp

set_option maxRecDepth 100000 in
set_option maxHeartbeats 4000000 in
theorem patternNames_walk (w : World) : Calls Try.prog 7 #[] w fun e w' => e = .returned (.bool true) ∧ Below w.heap.size w w' := by
  go_enter Try.func7, Try.ntmps7
  go_wp2_with fail
  refine (works_any w).mono ?_
  rintro e w1 ⟨rfl, hb1⟩
  have H1 := Lib.hid hb1
  clear hb1
  go_wp2_with fail
  go_loopg [1, 2] 65 (fun k v1 v2 wr => ∃ (i : Nat) (S : ByteArray), v2 = .int .i64 i ∧ i ≤ 64 ∧ 64 - i < k ∧ v1 = .string S ∧ S.size = i ∧ Hid (S.data.toList = List.replicate i 97) ∧ Hid (Below w.heap.size w wr))
  case atStart => exact ⟨0, ⟨#[]⟩, rfl, by omega, by omega, rfl, rfl, Lib.hid rfl, H1⟩
  case round =>
    clear H1
    obtain ⟨i, S, rfl, hi, hik, rfl, hS, HS, HB⟩ := hrel
    by_cases hlt : i < 64
    · have hlt2 : (i : Int) < 64 := by omega
      have HS2 : Hid ((S ++ ⟨#[97]⟩ : ByteArray).data.toList = List.replicate (i + 1) 97) := Lib.hid (by
        rw [ByteArray.data_append, Array.toList_append, HS.out, List.replicate_succ']; )
      have HZ : Hid ((S ++ ⟨#[97]⟩ : ByteArray).size = i + 1) := Lib.hid (by rw [ByteArray.size_append, hS]; rfl)
      have hsz : ¬ 9223372036854775807 < S.size + 1 := by omega
      go_wp2_with fail
      go_roundg (gk - 1)
      case measure => omega
      case rel => exact ⟨i + 1, _, by go_num, by omega, by omega, rfl, HZ.out, HS2, HB⟩
    · obtain rfl : i = 64 := by omega
      have hsz : ¬ 9223372036854775807 < S.size + 1 := by omega
      obtain ⟨t, ht⟩ := names_ok
      have HT := Lib.hid ht
      clear ht
      go_wp2_with fail
      refine (tree_any 1 S wr (by omega)).mono ?_
      rintro e w2 hm
      rw [HS.out, HT.out] at hm
      obtain ⟨K, rfl, hK, hb⟩ := hm
      obtain ⟨A, c, rfl⟩ := hK.slice
      have HB2 := Lib.hid (below_then HB.out hb (Nat.le_refl _))
      clear hK hb HB
      simp only [nodeV, spotV, spotC, nodeC]
      go_wp2_with fail
      obtain ⟨hA, hAB⟩ := two_after w2 (.cells #[.int .i64 t.op, .int .u64 (PM.word t.set 0), .int .u64 (PM.word t.set 1), .int .u64 (PM.word t.set 2), .int .u64 (PM.word t.set 3), .slice A t.kids.length c] TN) #[.int .i64 0, .int .i64 0]
      have HA := Lib.hid hA; have HB3 := Lib.hid (below_then HB2.out hAB (Nat.le_refl _))
      clear hA hAB HB2
      generalize (w2.alloc (.cells #[.int .i64 t.op, .int .u64 (PM.word t.set 0), .int .u64 (PM.word t.set 1), .int .u64 (PM.word t.set 2), .int .u64 (PM.word t.set 3), .slice A t.kids.length c] TN)).alloc (.cells #[.int .i64 0, .int .i64 0] TSp) = w3 at *
      have hlS : (S ++ ⟨#[97]⟩ : ByteArray).data.toList = List.replicate 64 97 ++ [97] := by rw [ByteArray.data_append, Array.toList_append, HS.out]
      have hlZ : (S ++ ⟨#[97]⟩ : ByteArray).size = 65 := by rw [ByteArray.size_append, hS]; rfl
      have HLS := Lib.hid hlS; have HLZ := Lib.hid hlZ
      clear hlS hlZ
      obtain ⟨S2, hS2⟩ : ∃ S2, S ++ ⟨#[97]⟩ = S2 := ⟨_, rfl⟩
      rw [hS2] at HLS HLZ ⊢
      have HS2 := Lib.hid hS2
      clear hS2
      refine (tree_any 1 S2 w3 (by rw [HLZ.out]; omega)).mono ?_
      rintro e w4 hm
      rw [HLS.out, names_long] at hm
      obtain ⟨rfl, hb⟩ := hm
      have HA4 := Lib.hid ((hb.block _ (lt_of_block HA.out)).trans HA.out)
      have HB4 := Lib.hid (below_then HB3.out hb (Nat.le_refl _))
      clear hb HA HB3
      simp only [spotV, spotC, zN]
      go_wp2_with fail
      obtain ⟨hA, hAB⟩ := two_after w4 (.cells #[.int .i64 0, .int .u64 0, .int .u64 0, .int .u64 0, .int .u64 0, .slice none 0 0] TN) #[.int .i64 3, .int .i64 64]
      have HC := Lib.hid hA; have HB5 := Lib.hid (below_then HB4.out hAB (Nat.le_refl _))
      have HA5 := Lib.hid ((hAB.block _ (lt_of_block HA4.out)).trans HA4.out)
      clear hA hAB HB4 HA4
      generalize (w4.alloc (.cells #[.int .i64 0, .int .u64 0, .int .u64 0, .int .u64 0, .int .u64 0, .slice none 0 0] TN)).alloc (.cells #[.int .i64 3, .int .i64 64] TSp) = w5 at *
      rw [HS2.out]
      refine (tree_any 4 S2 w5 (by rw [HLZ.out]; omega)).mono ?_
      rintro e w6 hm
      rw [names_arg] at hm
      obtain ⟨rfl, hb⟩ := hm
      have HA6 := Lib.hid ((hb.block _ (lt_of_block HA5.out)).trans HA5.out)
      have HC6 := Lib.hid ((hb.block _ (lt_of_block HC.out)).trans HC.out)
      have HB6 := Lib.hid (below_then HB5.out hb (Nat.le_refl _))
      clear hb HA5 HC HB5
      simp only [spotV, spotC, zN]
      have hsz2 : ¬ 9223372036854775807 < 6 + S.size := by omega
      have hsz3 : ¬ 9223372036854775807 < 6 + S.size + 2 := by omega
      go_wp2_with fail
      obtain ⟨hA, hAB⟩ := two_after w6 (.cells #[.int .i64 0, .int .u64 0, .int .u64 0, .int .u64 0, .int .u64 0, .slice none 0 0] TN) #[.int .i64 2, .int .i64 0]
      have HD := Lib.hid hA; have HB7 := Lib.hid (below_then HB6.out hAB (Nat.le_refl _))
      have HA7 := Lib.hid ((hAB.block _ (lt_of_block HA6.out)).trans HA6.out)
      have HC7 := Lib.hid ((hAB.block _ (lt_of_block HC6.out)).trans HC6.out)
      clear hA hAB HB6 HA6 HC6
      generalize (w6.alloc (.cells #[.int .i64 0, .int .u64 0, .int .u64 0, .int .u64 0, .int .u64 0, .slice none 0 0] TN)).alloc (.cells #[.int .i64 2, .int .i64 0] TSp) = w7 at *
      have hlP : ((⟨#[103, 108, 111, 98, 32, 34]⟩ : ByteArray) ++ S ++ ⟨#[97, 34]⟩ : ByteArray).data.toList = [103, 108, 111, 98, 32, 34] ++ List.replicate 64 97 ++ [97, 34] := by rw [ByteArray.data_append, ByteArray.data_append, Array.toList_append, Array.toList_append, HS.out]
      have hlQ : ((⟨#[103, 108, 111, 98, 32, 34]⟩ : ByteArray) ++ S ++ ⟨#[97, 34]⟩ : ByteArray).size = 72 := by rw [ByteArray.size_append, ByteArray.size_append, hS]; rfl
      have HLP := Lib.hid hlP; have HLQ := Lib.hid hlQ
      clear hlP hlQ
      generalize ((⟨#[103, 108, 111, 98, 32, 34]⟩ : ByteArray) ++ S ++ ⟨#[97, 34]⟩ : ByteArray) = S3 at *
      refine (parse_any S3 w7 (by rw [HLQ.out]; omega)).mono ?_
      rintro e w8 ⟨rfl, hb⟩
      rw [HLP.out, names_parse]
      simp only [parseV, spotV, spotC, zP]
      have HA8 := Lib.hid ((hb.block _ (lt_of_block HA7.out)).trans HA7.out)
      have HC8 := Lib.hid ((hb.block _ (lt_of_block HC7.out)).trans HC7.out)
      have HD8 := Lib.hid ((hb.block _ (lt_of_block HD.out)).trans HD.out)
      have HB8 := Lib.hid (below_then HB7.out hb (Nat.le_refl _))
      clear hb HA7 HC7 HD HB7
      go_upto_region 12 with (fail)
      obtain ⟨hA, hAB⟩ := two_after w8 (.cells #[.int .i64 0, .string ⟨#[]⟩] TPat) #[.int .i64 3, .int .i64 70]
      have HE := Lib.hid hA; have HB9 := Lib.hid (below_then HB8.out hAB (Nat.le_refl _))
      have HA9 := Lib.hid ((hAB.block _ (lt_of_block HA8.out)).trans HA8.out)
      have HC9 := Lib.hid ((hAB.block _ (lt_of_block HC8.out)).trans HC8.out)
      have HD9 := Lib.hid ((hAB.block _ (lt_of_block HD8.out)).trans HD8.out)
      clear hA hAB HB8 HA8 HC8 HD8
      generalize (w8.alloc (.cells #[.int .i64 0, .string ⟨#[]⟩] TPat)).alloc (.cells #[.int .i64 3, .int .i64 70] TSp) = w9 at *
      have a0 : w9.cell? ⟨w2.heap.size + 1, 0, none⟩ = some (.int .i64 0) := by rw [cell_of_row _ _ 0 _ _ _ HA9.out]; rfl
      have a1 : w9.cell? ⟨w2.heap.size + 1, 1, none⟩ = some (.int .i64 0) := by rw [cell_of_row _ _ 1 _ _ _ HA9.out]; rfl
      have b0 : w9.cell? ⟨w4.heap.size + 1, 0, none⟩ = some (.int .i64 3) := by rw [cell_of_row _ _ 0 _ _ _ HC9.out]; rfl
      have b1 : w9.cell? ⟨w4.heap.size + 1, 1, none⟩ = some (.int .i64 64) := by rw [cell_of_row _ _ 1 _ _ _ HC9.out]; rfl
      have c0 : w9.cell? ⟨w6.heap.size + 1, 0, none⟩ = some (.int .i64 2) := by rw [cell_of_row _ _ 0 _ _ _ HD9.out]; rfl
      have c1 : w9.cell? ⟨w6.heap.size + 1, 1, none⟩ = some (.int .i64 0) := by rw [cell_of_row _ _ 1 _ _ _ HD9.out]; rfl
      have d0 : w9.cell? ⟨w8.heap.size + 1, 0, none⟩ = some (.int .i64 3) := by rw [cell_of_row _ _ 0 _ _ _ HE.out]; rfl
      have d1 : w9.cell? ⟨w8.heap.size + 1, 1, none⟩ = some (.int .i64 70) := by rw [cell_of_row _ _ 1 _ _ _ HE.out]; rfl
      clear HA9 HC9 HD9 HE
      go_wp2_with fail
      go_ret
      exact ⟨rfl, HB9.out⟩
end Go.Proofs.Ytlfhjmdbkifciaa
