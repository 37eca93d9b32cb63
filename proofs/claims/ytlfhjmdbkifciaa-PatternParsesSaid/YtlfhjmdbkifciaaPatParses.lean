/- PatternParses: a text is a pattern, or is told to be wrong where it is. -/
import Derived.Test.YtlfhjmdbkifciaaPatRefParse
import Derived.Test.YtlfhjmdbkifciaaPatQuotes
namespace Go.Proofs.Ytlfhjmdbkifciaa
open Go.RowKit PM

theorem eq_patV (k : Int) (s : ByteArray) (w : World) : (binOp .eql TPat (.agg #[.int .i64 k, .string s]) (.agg #[.int .i64 k, .string s])).run Try.prog w = .ok (.bool true) w := by
  rw [run_eql_struct]
  simp [go_sem]
theorem parseV_form (r : PR) : ∃ (k : Nat) (t : ByteArray) (e j : Nat), parseV r = .tuple #[.agg #[.int .i64 k, .string t], .agg #[.int .i64 e, .int .i64 j]] := by
  cases r with
  | ok k t => exact ⟨k, bs t, 0, 0, rfl⟩
  | bad e k => exact ⟨0, ⟨#[]⟩, e, k, rfl⟩

set_option maxRecDepth 100000 in
set_option maxHeartbeats 4000000 in
theorem patternParses_walk (s : ByteArray) (w : World) : Calls Try.prog 4 #[.string s] w fun e w' => e = .returned (.bool true) ∧ Below w.heap.size w w' := by
  go_enter Try.func4, Try.ntmps4
  go_wp2_with fail
  refine (works_any w).mono ?_
  rintro e w1 ⟨rfl, hb1⟩
  have H1 := Lib.hid hb1
  clear hb1
  go_wp2_with fail
  refine (long_any s.size w1).mono ?_
  rintro e w2 ⟨rfl, rfl⟩
  by_cases hl : 65536 < s.size
  · rw [show decide (65536 < s.size) = true by simpa using hl]
    go_wp2_with fail
    go_ret
    exact ⟨rfl, H1.out⟩
  rw [show decide (65536 < s.size) = false by simpa using hl]
  go_wp2_with fail
  refine (parse_any s w2 (by omega)).mono ?_
  rintro e w3 ⟨rfl, hb⟩
  obtain ⟨k, t, er, j, hV⟩ := parseV_form (parse s.data.toList)
  have HV := Lib.hid hV
  rw [hV]
  have H3 := Lib.hid (below_then H1.out hb (Nat.le_refl _))
  clear hV hb H1
  go_wp2_with fail
  obtain ⟨n1, n2, hAB⟩ := two_at w3 #[.int .i64 k, .string t] #[.int .i64 er, .int .i64 j] TPat TSp
  have HN1 := Lib.hid n1; have HN2 := Lib.hid n2; have H4 := Lib.hid (below_then H3.out hAB (Nat.le_refl _))
  clear n1 n2 hAB H3
  generalize (w3.alloc (.cells #[.int .i64 k, .string t] TPat)).alloc (.cells #[.int .i64 er, .int .i64 j] TSp) = w4 at *
  generalize w3.heap.size = B at *
  refine (rparse_any s w4 (by omega)).mono ?_
  rintro e w5 ⟨rfl, hb⟩
  rw [HV.out]
  have H5 := Lib.hid (below_then H4.out hb (Nat.le_refl _))
  replace HN1 := Lib.hid ((hb.block _ (lt_of_block HN1.out)).trans HN1.out)
  replace HN2 := Lib.hid ((hb.block _ (lt_of_block HN2.out)).trans HN2.out)
  clear hb H4 HV
  go_upto_region 7 with (fail)
  obtain ⟨n3, n4, hAB⟩ := two_at w5 #[.int .i64 k, .string t] #[.int .i64 er, .int .i64 j] TPat TSp
  have H6 := Lib.hid (below_then H5.out hAB (Nat.le_refl _))
  have n1 := (hAB.block _ (lt_of_block HN1.out)).trans HN1.out
  have n2 := (hAB.block _ (lt_of_block HN2.out)).trans HN2.out
  clear hAB H5 HN1 HN2
  generalize (w5.alloc (.cells #[.int .i64 k, .string t] TPat)).alloc (.cells #[.int .i64 er, .int .i64 j] TSp) = w6 at *
  generalize w5.heap.size = B' at *
  have r0 : w6.cell? ⟨B, 0, none⟩ = some (.int .i64 k) := by rw [cell_of_row _ _ _ _ _ _ n1]; rfl
  have r1 : w6.cell? ⟨B, 1, none⟩ = some (.string t) := by rw [cell_of_row _ _ _ _ _ _ n1]; rfl
  have r2 : w6.cell? ⟨B + 1, 0, none⟩ = some (.int .i64 er) := by rw [cell_of_row _ _ _ _ _ _ n2]; rfl
  have r3 : w6.cell? ⟨B + 1, 1, none⟩ = some (.int .i64 j) := by rw [cell_of_row _ _ _ _ _ _ n2]; rfl
  have s0 : w6.cell? ⟨B', 0, none⟩ = some (.int .i64 k) := by rw [cell_of_row _ _ _ _ _ _ n3]; rfl
  have s1 : w6.cell? ⟨B', 1, none⟩ = some (.string t) := by rw [cell_of_row _ _ _ _ _ _ n3]; rfl
  have s2 : w6.cell? ⟨B' + 1, 0, none⟩ = some (.int .i64 er) := by rw [cell_of_row _ _ _ _ _ _ n4]; rfl
  have s3 : w6.cell? ⟨B' + 1, 1, none⟩ = some (.int .i64 j) := by rw [cell_of_row _ _ _ _ _ _ n4]; rfl
  have he1 := eq_patV k t
  have he2 := eq_spotV er j
  clear n1 n2 n3 n4
  go_wp2_with fail
  go_ret
  exact ⟨rfl, H6.out⟩
end Go.Proofs.Ytlfhjmdbkifciaa
