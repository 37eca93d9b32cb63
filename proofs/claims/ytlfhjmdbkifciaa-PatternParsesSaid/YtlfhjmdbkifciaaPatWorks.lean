/- works: one answer that the document fixes. -/
import Derived.Test.YtlfhjmdbkifciaaPatParse2
import Derived.Test.YtlfhjmdbkifciaaPatQuote
import Derived.Deep.Cut
namespace Go.Proofs.Ytlfhjmdbkifciaa
open Go.RowKit PM

theorem parse_works : parse [114, 101, 32, 34, 97, 43, 34] = .ok 3 [97, 43] := by kernel_rfl
theorem quote_works : quote [97, 10] = [34, 97, 92, 110, 34] := by kernel_rfl
theorem tree_works : tree 3 [97, 43] = .ok (over 6 (one 97)) := by kernel_rfl
theorem eq_pat (w : World) : (binOp .eql TPat (.agg #[.int .i64 3, .string (bs [97, 43])]) (.agg #[.int .i64 3, .string ⟨#[97, 43]⟩])).run Try.prog w = .ok (.bool true) w := by kernel_rfl
theorem eq_spot (w : World) : (binOp .eql TSp (.agg #[.int .i64 0, .int .i64 0]) (.agg #[.int .i64 0, .int .i64 0])).run Try.prog w = .ok (.bool true) w := by kernel_rfl

set_option maxRecDepth 100000 in
set_option maxHeartbeats 8000000 in
theorem works_any (w : World) : Calls Try.prog 13 #[] w fun e w' => e = .returned (.bool true) ∧ Below w.heap.size w w' := by
  have he1 := eq_pat; have he2 := eq_spot
  go_enter Try.func13, Try.ntmps13
  go_wp2_with fail
  refine (parse_any ⟨#[114, 101, 32, 34, 97, 43, 34]⟩ w (by decide)).mono ?_
  rintro e w1 ⟨rfl, hb⟩
  rw [show (⟨#[114, 101, 32, 34, 97, 43, 34]⟩ : ByteArray).data.toList = [114, 101, 32, 34, 97, 43, 34] from rfl, parse_works]
  simp only [parseV, spotV, spotC]
  have HB1 := Lib.hid hb
  clear hb
  go_wp2_with fail
  have b1 := below_new w1 (.cells #[.int .i64 3, .string (bs [97, 43])] TPat)
  have b2 := below_new (w1.alloc (.cells #[.int .i64 3, .string (bs [97, 43])] TPat)) (.cells #[.int .i64 0, .int .i64 0] TSp)
  have r1 := heap_alloc_new w1 (.cells #[.int .i64 3, .string (bs [97, 43])] TPat)
  have r2 := heap_alloc_new (w1.alloc (.cells #[.int .i64 3, .string (bs [97, 43])] TPat)) (.cells #[.int .i64 0, .int .i64 0] TSp)
  have r1' := (b2.block _ (by simp)).trans r1
  rw [World.size_alloc] at r2
  have HU2 := Lib.hid (below_then HB1.out (b1.trans (b2.mono (by simp))) (Nat.le_refl _))
  have hsz : ((w1.alloc (.cells #[.int .i64 3, .string (bs [97, 43])] TPat)).alloc (.cells #[.int .i64 0, .int .i64 0] TSp)).heap.size = w1.heap.size + 2 := by simp
  generalize (w1.alloc (.cells #[.int .i64 3, .string (bs [97, 43])] TPat)).alloc (.cells #[.int .i64 0, .int .i64 0] TSp) = W2 at *
  obtain ⟨B, hB⟩ : ∃ B, w1.heap.size = B := ⟨_, rfl⟩
  rw [hB] at r1' r2 hsz ⊢
  have HR1 := Lib.hid r1'; have HR2 := Lib.hid r2; have HSZ := Lib.hid hsz
  clear b1 b2 r1 r2 r1' hB HB1 hsz
  refine (tree_any 3 (bs [97, 43]) W2 (by decide)).mono ?_
  rintro e w3 ht
  rw [show (bs [97, 43]).data.toList = [97, 43] from rfl, tree_works] at ht
  obtain ⟨K, rfl, hK, hb⟩ := ht
  obtain ⟨A, c, rfl⟩ := hK.slice
  have b3 := below_new w3 (.cells #[.int .i64 6, .int .u64 0, .int .u64 0, .int .u64 0, .int .u64 0, .slice A 1 c] TN)
  have b4 := below_new (w3.alloc (.cells #[.int .i64 6, .int .u64 0, .int .u64 0, .int .u64 0, .int .u64 0, .slice A 1 c] TN)) (.cells #[.int .i64 0, .int .i64 0] TSp)
  have hn : nodeV (over 6 (one 97)) (.slice A (over 6 (one 97)).kids.length c) = .agg #[.int .i64 6, .int .u64 0, .int .u64 0, .int .u64 0, .int .u64 0, .slice A 1 c] := by
    rw [nodeV, overC_eq]; rfl
  rw [hn]
  simp only [spotV, spotC]
  have q1 := (hb.block _ (lt_of_block HR1.out)).trans HR1.out
  have q2 := (hb.block _ (lt_of_block HR2.out)).trans HR2.out
  have q1' := (b4.block _ (by have := lt_of_block q1; simp; omega)).trans ((b3.block _ (lt_of_block q1)).trans q1)
  have q2' := (b4.block _ (by have := lt_of_block q2; simp; omega)).trans ((b3.block _ (lt_of_block q2)).trans q2)
  have n1 := heap_alloc_new w3 (.cells #[.int .i64 6, .int .u64 0, .int .u64 0, .int .u64 0, .int .u64 0, .slice A 1 c] TN)
  have n1' := (b4.block _ (by simp)).trans n1
  have n2 := heap_alloc_new (w3.alloc (.cells #[.int .i64 6, .int .u64 0, .int .u64 0, .int .u64 0, .int .u64 0, .slice A 1 c] TN)) (.cells #[.int .i64 0, .int .i64 0] TSp)
  rw [World.size_alloc] at n2
  have HU4 := Lib.hid (below_then HU2.out (hb.trans ((b3.trans (b4.mono (by simp))).mono hb.size)) (Nat.le_refl _))
  have Q1 := Lib.hid q1'; have Q2 := Lib.hid q2'; have N1 := Lib.hid n1'; have N2 := Lib.hid n2
  clear hK hb b3 b4 q1 q2 q1' q2' n1 n1' n2 hn HR1 HR2 HU2
  go_upto_region 3 with (fail)
  generalize (w3.alloc (.cells #[.int .i64 6, .int .u64 0, .int .u64 0, .int .u64 0, .int .u64 0, .slice A 1 c] TN)).alloc (.cells #[.int .i64 0, .int .i64 0] TSp) = W4 at *
  obtain ⟨C, hC⟩ : ∃ C, w3.heap.size = C := ⟨_, rfl⟩
  rw [hC] at N1 N2 ⊢
  have c0 : W4.cell? ⟨B, 0, none⟩ = some (.int .i64 3) := by rw [cell_of_row _ _ 0 _ _ _ Q1.out]; rfl
  have c1 : W4.cell? ⟨B, 1, none⟩ = some (.string (bs [97, 43])) := by rw [cell_of_row _ _ 1 _ _ _ Q1.out]; rfl
  have c2 : W4.cell? ⟨B + 1, 0, none⟩ = some (.int .i64 0) := by rw [cell_of_row _ _ 0 _ _ _ Q2.out]; rfl
  have c3 : W4.cell? ⟨B + 1, 1, none⟩ = some (.int .i64 0) := by rw [cell_of_row _ _ 1 _ _ _ Q2.out]; rfl
  have c4 : W4.cell? ⟨C, 0, none⟩ = some (.int .i64 6) := by rw [cell_of_row _ _ 0 _ _ _ N1.out]; rfl
  have c5 : W4.cell? ⟨C, 5, none⟩ = some (.slice A 1 c) := by rw [cell_of_row _ _ 5 _ _ _ N1.out]; rfl
  have c6 : W4.cell? ⟨C + 1, 0, none⟩ = some (.int .i64 0) := by rw [cell_of_row _ _ 0 _ _ _ N2.out]; rfl
  have c7 : W4.cell? ⟨C + 1, 1, none⟩ = some (.int .i64 0) := by rw [cell_of_row _ _ 1 _ _ _ N2.out]; rfl
  clear hC Q1 Q2 N1 N2
  go_wp2_with fail
  refine (quote_any ⟨#[97, 10]⟩ W4 (by decide)).mono ?_
  rintro e w5 ⟨rfl, hb⟩
  rw [show (⟨#[97, 10]⟩ : ByteArray).data.toList = [97, 10] from rfl, quote_works, show bs [34, 97, 92, 110, 34] = ⟨#[34, 97, 92, 110, 34]⟩ from rfl]
  have HU5 := Lib.hid (below_then HU4.out hb (Nat.le_refl _))
  clear hb c0 c1 c2 c3 c4 c5 c6 c7
  go_wp2_with fail
  go_ret
  exact ⟨rfl, HU5.out⟩
end Go.Proofs.Ytlfhjmdbkifciaa
