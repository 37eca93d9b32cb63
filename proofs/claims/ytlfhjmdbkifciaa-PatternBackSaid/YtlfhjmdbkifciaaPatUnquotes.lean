/- PatternUnquotes: what stands in quotes is read, or told to be wrong where it is. -/
import Derived.Test.YtlfhjmdbkifciaaPatRefUnq
import Derived.Test.YtlfhjmdbkifciaaPatQuotes
namespace Go.Proofs.Ytlfhjmdbkifciaa
open Go.RowKit PM

/-- an answer of two results, of a text and a spot -/
theorem unquoteV_form (s : ByteArray) : ∃ (o : ByteArray) (e k : Nat), unquoteV s = .tuple #[.string o, spotV e k] := by
  unfold unquoteV
  cases scan (-1) s.data.toList 0 with
  | ok out pl =>
    simp only [unquoteR]
    split
    · exact ⟨_, _, _, rfl⟩
    · exact ⟨_, _, _, rfl⟩
  | wrong k => exact ⟨_, _, _, rfl⟩
  | long k => exact ⟨_, _, _, rfl⟩
set_option maxRecDepth 100000 in
set_option maxHeartbeats 4000000 in
theorem patternUnquotes_walk (s : ByteArray) (w : World) : Calls Try.prog 9 #[.string s] w fun e w' => e = .returned (.bool true) ∧ Below w.heap.size w w' := by
  go_enter Try.func9, Try.ntmps9
  go_wp2_with fail
  refine (works_any w).mono ?_
  rintro e w1 ⟨rfl, hb1⟩
  have H1 := Lib.hid hb1
  clear hb1
  go_wp2_with fail
  refine (long_any s.size w1).mono ?_
  rintro e w2 ⟨rfl, rfl⟩
  by_cases hl : 65536 < s.size
  · rw [show decide (65536 < s.size) = true by simpa using hl]
    go_wp2_with fail
    go_ret
    exact ⟨rfl, H1.out⟩
  rw [show decide (65536 < s.size) = false by simpa using hl]
  obtain ⟨o, er, k, hU⟩ := unquoteV_form s
  have HU := Lib.hid hU
  clear hU
  go_wp2_with fail
  refine (unquote_any s w2 (by omega)).mono ?_
  rintro e w3 ⟨rfl, hb3⟩
  have H3 := Lib.hid (below_then H1.out hb3 (Nat.le_refl _))
  rw [HU.out]
  simp only [spotV, spotC]
  clear hb3 H1
  have hN := heap_alloc_new w3 (.cells #[.int .i64 er, .int .i64 k] TSp)
  have H4 := Lib.hid (below_then H3.out (below_new w3 (.cells #[.int .i64 er, .int .i64 k] TSp)) (Nat.le_refl _))
  have HN := Lib.hid hN
  clear hN H3
  go_wp2_with fail
  generalize w3.alloc (.cells #[.int .i64 er, .int .i64 k] TSp) = w4 at *
  refine (runquote_any s w4 (by omega)).mono ?_
  rintro e w5 ⟨rfl, hb5⟩
  have H5 := Lib.hid (below_then H4.out hb5 (Nat.le_refl _))
  have hN5 := (hb5.block _ (lt_of_block HN.out)).trans HN.out
  rw [HU.out]
  simp only [spotV, spotC]
  have h6 := below_new w5 (.cells #[.int .i64 er, .int .i64 k] TSp)
  have hM := heap_alloc_new w5 (.cells #[.int .i64 er, .int .i64 k] TSp)
  have HN6 := Lib.hid ((h6.block _ (lt_of_block hN5)).trans hN5)
  have HM6 := Lib.hid hM
  have H6 := Lib.hid (below_then H5.out h6 (Nat.le_refl _))
  clear hb5 hN5 h6 hM HN H4 H5
  go_upto_region 7 with (fail)
  generalize w5.alloc (.cells #[.int .i64 er, .int .i64 k] TSp) = w6 at *
  have c0 : w6.cell? ⟨w3.heap.size, 0, none⟩ = some (.int .i64 er) := by rw [cell_of_row _ _ 0 _ _ _ HN6.out]; rfl
  have c1 : w6.cell? ⟨w3.heap.size, 1, none⟩ = some (.int .i64 k) := by rw [cell_of_row _ _ 1 _ _ _ HN6.out]; rfl
  have c2 : w6.cell? ⟨w5.heap.size, 0, none⟩ = some (.int .i64 er) := by rw [cell_of_row _ _ 0 _ _ _ HM6.out]; rfl
  have c3 : w6.cell? ⟨w5.heap.size, 1, none⟩ = some (.int .i64 k) := by rw [cell_of_row _ _ 1 _ _ _ HM6.out]; rfl
  clear HN6 HM6
  go_wp2_with fail
  go_ret
  exact ⟨rfl, H6.out⟩
end Go.Proofs.Ytlfhjmdbkifciaa
