/- PatternBegins: a text in quotes is read from the beginning of a text. -/
import Derived.Test.YtlfhjmdbkifciaaPatRefQd
namespace Go.Proofs.Ytlfhjmdbkifciaa
open Go.RowKit PM

theorem begins_ok {most : Int} {s : ByteArray} {out : List UInt8} {pl : List Nat} (h : scan (max most (-1)) s.data.toList 0 = .ok out pl) :
    2 ≤ pl.getLastD 0 + 1 ∧ pl.getLastD 0 + 1 ≤ s.size ∧ s.extract 0 (pl.getLastD 0 + 1) = bs (quote out) ∧ (0 ≤ most → (out.length : Int) ≤ most) := by
  obtain ⟨r, h1, h2, h3⟩ := scan_read h
  have hl : (quote out).length = (signs out).length + 2 := by simp [quote]
  have hsl : s.data.toList.length = s.size := rfl
  have h4 : s.size = (quote out).length + r.length := by rw [← hsl, h1, List.length_append]
  refine ⟨by omega, by omega, ?_, fun h0 => by have := h3 (by omega); omega⟩
  rw [h2]
  apply Go.WideShapes.bytes_inj
  rw [bs_toList, ByteArray.data_extract, Array.toList_extract, h1]
  simp

set_option maxRecDepth 100000 in
set_option maxHeartbeats 4000000 in
theorem patternBegins_walk (s : ByteArray) (most : Int) (w : World) (hm1 : -9223372036854775808 ≤ most) (hm2 : most ≤ 9223372036854775807) :
    Calls Try.prog 10 #[.string s, .int .i64 most] w fun e w' => e = .returned (.bool true) ∧ Below w.heap.size w w' := by
  go_enter Try.func10, Try.ntmps10
  go_wp2_with fail
  refine (works_any w).mono ?_
  rintro e w1 ⟨rfl, hb1⟩
  have H1 := Lib.hid hb1
  clear hb1
  go_wp2_with fail
  refine (long_any s.size w1).mono ?_
  rintro e w2 ⟨rfl, rfl⟩
  by_cases hl : 65536 < s.size
  · rw [show decide (65536 < s.size) = true by simpa using hl]
    go_wp2_with fail
    go_ret
    exact ⟨rfl, H1.out⟩
  rw [show decide (65536 < s.size) = false by simpa using hl]
  obtain ⟨o, m, er, k, hU, hR⟩ : ∃ (o : ByteArray) (m er k : Nat), quotedV (scan (max most (-1)) s.data.toList 0) = .tuple #[.string o, .int .i64 (m : Nat), spotV er k] ∧
      ((er = 0 ∧ k = 0 ∧ 2 ≤ m ∧ m ≤ s.size ∧ s.extract 0 m = bs (quote o.data.toList) ∧ (0 ≤ most → (o.size : Int) ≤ most)) ∨ ((er = 6 ∨ er = 3) ∧ m = 0 ∧ o = ⟨#[]⟩)) := by
    cases hr : scan (max most (-1)) s.data.toList 0 with
    | ok out pl =>
      obtain ⟨h1, h2, h3, h4⟩ := begins_ok hr
      exact ⟨bs out, pl.getLastD 0 + 1, 0, 0, rfl, .inl ⟨rfl, rfl, h1, h2, h3, fun h => by rw [bs_sz]; exact h4 h⟩⟩
    | wrong k => exact ⟨⟨#[]⟩, 0, 6, k, rfl, .inr ⟨.inl rfl, rfl, rfl⟩⟩
    | long k => exact ⟨⟨#[]⟩, 0, 3, k, rfl, .inr ⟨.inr rfl, rfl, rfl⟩⟩
  have HU := Lib.hid hU; have HR := Lib.hid hR
  clear hU hR
  go_wp2_with fail
  refine (quoted_any s most w2 (by omega)).mono ?_
  rintro e w3 ⟨rfl, hb3⟩
  have H3 := Lib.hid (below_then H1.out hb3 (Nat.le_refl _))
  rw [HU.out]
  simp only [spotV, spotC]
  clear hb3 H1
  have hN := heap_alloc_new w3 (.cells #[.int .i64 er, .int .i64 k] TSp)
  have H4 := Lib.hid (below_then H3.out (below_new w3 (.cells #[.int .i64 er, .int .i64 k] TSp)) (Nat.le_refl _))
  have HN := Lib.hid hN
  clear hN H3
  go_wp2_with fail
  generalize w3.alloc (.cells #[.int .i64 er, .int .i64 k] TSp) = w4 at *
  refine (rquoted_any s most w4 (by omega) hm1 hm2).mono ?_
  rintro e w5 ⟨rfl, hb5⟩
  have H5 := Lib.hid (below_then H4.out hb5 (Nat.le_refl _))
  have hN5 := (hb5.block _ (lt_of_block HN.out)).trans HN.out
  rw [HU.out]
  simp only [spotV, spotC]
  have h6 := below_new w5 (.cells #[.int .i64 er, .int .i64 k] TSp)
  have hM := heap_alloc_new w5 (.cells #[.int .i64 er, .int .i64 k] TSp)
  have HN6 := Lib.hid ((h6.block _ (lt_of_block hN5)).trans hN5)
  have HM6 := Lib.hid hM
  have H6 := Lib.hid (below_then H5.out h6 (Nat.le_refl _))
  clear hb5 hN5 h6 hM HN H4 H5
  go_upto_region 7 with (fail)
  generalize w5.alloc (.cells #[.int .i64 er, .int .i64 k] TSp) = w6 at *
  have c0 : w6.cell? ⟨w3.heap.size, 0, none⟩ = some (.int .i64 er) := by rw [cell_of_row _ _ 0 _ _ _ HN6.out]; rfl
  have c1 : w6.cell? ⟨w3.heap.size, 1, none⟩ = some (.int .i64 k) := by rw [cell_of_row _ _ 1 _ _ _ HN6.out]; rfl
  have c2 : w6.cell? ⟨w5.heap.size, 0, none⟩ = some (.int .i64 er) := by rw [cell_of_row _ _ 0 _ _ _ HM6.out]; rfl
  have c3 : w6.cell? ⟨w5.heap.size, 1, none⟩ = some (.int .i64 k) := by rw [cell_of_row _ _ 1 _ _ _ HM6.out]; rfl
  clear HN6 HM6
  rcases HR.out with ⟨rfl, rfl, h2m, hms, hext, hmo⟩ | ⟨her, rfl, rfl⟩
  · have hmi2 : ¬ (m : Int) < 2 := by omega
    have hms2 : ¬ (s.size : Int) < m := by omega
    have hms3 : (m : Int) ≤ s.size := by omega
    have hm0 : (0 : Int) ≤ m := by omega
    have HE := Lib.hid hext
    have hd : (decide ((0 : Int) ≤ most) = false) ∨ ((0 : Int) ≤ most ∧ ¬ most < (o.size : Int)) := by
      by_cases h : 0 ≤ most
      · exact .inr ⟨h, by have := hmo h; omega⟩
      · exact .inl (by simp; omega)
    clear hext hmo HR
    rcases hd with k1 | ⟨k1, k2⟩
    all_goals
      go_wp2_with fail
      rw [HE.out]
      have hu := unquote_any (bs (quote o.data.toList)) w6 (by rw [← HE.out, ByteArray.size_extract]; omega)
      rw [unquote_quote, bs_of] at hu
      refine hu.mono ?_
      rintro e w7 ⟨rfl, hb7⟩
      simp only [spotV, spotC]
      have H8 := Lib.hid (below_then (below_then H6.out hb7 (Nat.le_refl _)) (below_new w7 (.cells #[.int .i64 0, .int .i64 0] TSp)) (Nat.le_refl _))
      clear hb7 hu c0 c1 c2 c3
      go_wp2_with fail
      go_ret
      exact ⟨rfl, H8.out⟩
  · have hne : ((er : Int) != 0) = true := by rcases her with rfl | rfl <;> rfl
    clear HR her
    go_wp2_with fail
    go_ret
    exact ⟨rfl, H6.out⟩
end Go.Proofs.Ytlfhjmdbkifciaa
