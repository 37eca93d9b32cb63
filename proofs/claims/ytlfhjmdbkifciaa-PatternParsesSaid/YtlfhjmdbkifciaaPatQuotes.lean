/- PatternQuotes: any text stands in quotes in one way, and is found there again. -/
import Derived.Test.YtlfhjmdbkifciaaPatWorks
import Derived.Test.YtlfhjmdbkifciaaPatRefQ
namespace Go.Proofs.Ytlfhjmdbkifciaa
open Go.RowKit PM

theorem sign_head_ne (c : UInt8) (r : List UInt8) : (sign c ++ r).head? ≠ some 34 := by
  obtain ⟨b, t, h, h2⟩ := sign_head c
  rw [h]
  rcases h2 with ⟨hp, -⟩ | ⟨rfl, -⟩
  · intro e
    simp at e
    subst e
    revert hp; decide
  · simp

theorem scanL_signs : ∀ (s : List UInt8) (f a : Nat) (out : List UInt8) (pl : List Nat), s.length < f → ∃ q, scanL (-1) f (signs s ++ [34]) a out pl = .ok (out ++ s) (q ++ [a + (signs s).length])
  | [], f + 1, a, out, pl, _ => by
    refine ⟨pl, ?_⟩
    simp only [scanL, signs, List.flatMap_nil, List.nil_append, List.head?_cons, List.length_nil, Nat.add_zero, List.append_nil]
    rw [if_neg (by simp), if_pos trivial]
  | c :: s, f + 1, a, out, pl, hf => by
    obtain ⟨q, hq⟩ := scanL_signs s f (a + (sign c).length) (out ++ [c]) (pl ++ [a]) (by simp at hf; omega)
    refine ⟨q, ?_⟩
    have he : signs (c :: s) ++ [34] = sign c ++ (signs s ++ [34]) := by simp [signs]
    have hl : (signs (c :: s)).length = (sign c).length + (signs s).length := by simp [signs]
    rw [he]
    simp only [scanL]
    rw [if_neg (by intro h; omega), if_neg (sign_head_ne c _), step_sign]
    simp only []
    rw [List.drop_left, hq, hl]
    simp [Nat.add_assoc]

theorem scan_quote (s : List UInt8) : ∃ q, scan (-1) (quote s) 0 = .ok s (q ++ [1 + (signs s).length]) := by
  obtain ⟨q, hq⟩ := scanL_signs s ((quote s).length + 1) 1 [] [] (by
    have h : s.length ≤ (signs s).length := by
      induction s with
      | nil => simp
      | cons c s ih => have := (sign_pos c).1; simp only [signs, List.flatMap_cons, List.length_append, List.length_cons] at *; omega
    simp [quote]; omega)
  refine ⟨q, ?_⟩
  unfold scan
  rw [if_pos (show ((quote s).drop 0).head? = some 34 from rfl)]
  exact hq

theorem unquote_quote (s : List UInt8) : unquoteV (bs (quote s)) = .tuple #[.string (bs s), spotV 0 0] := by
  obtain ⟨q, hq⟩ := scan_quote s
  have hl : (bs (quote s)).size = (signs s).length + 2 := by rw [bs_sz]; simp [quote]
  unfold unquoteV
  rw [bs_toList, hq]
  simp only [unquoteR]
  rw [if_neg (by rw [hl]; simp; omega)]

set_option maxRecDepth 100000 in
theorem long_any (n : Nat) (w : World) : Calls Try.prog 17 #[.int .i64 n] w fun e w' => e = .returned (.bool (decide (65536 < n))) ∧ w' = w := by
  go_enter Try.func17, Try.ntmps17
  go_wp2_with fail
  go_ret
  exact ⟨ret_bool (by rw [decide_eq_decide]; omega), rfl⟩

set_option maxRecDepth 100000 in
set_option maxHeartbeats 4000000 in
theorem patternQuotes_walk (s : ByteArray) (w : World) : Calls Try.prog 8 #[.string s] w fun e w' => e = .returned (.bool true) ∧ Below w.heap.size w w' := by
  have he2 := eq_spot
  go_enter Try.func8, Try.ntmps8
  go_wp2_with fail
  refine (works_any w).mono ?_
  rintro e w1 ⟨rfl, hb1⟩
  have H1 := Lib.hid hb1
  clear hb1
  go_wp2_with fail
  refine (long_any s.size w1).mono ?_
  rintro e w2 ⟨rfl, rfl⟩
  by_cases hl : 65536 < s.size
  · rw [show decide (65536 < s.size) = true by simpa using hl]
    go_wp2_with fail
    go_ret
    exact ⟨rfl, H1.out⟩
  rw [show decide (65536 < s.size) = false by simpa using hl]
  go_wp2_with fail
  refine (quote_any s w2 (by omega)).mono ?_
  rintro e w3 ⟨rfl, hb3⟩
  have H3 := Lib.hid (below_then H1.out hb3 (Nat.le_refl _))
  clear hb3 H1
  have hu := unquote_any (bs (quote s.data.toList)) w3 (by
    rw [bs_sz]
    have h1 := signs_len4 s.data.toList
    have h2 : s.data.toList.length = s.size := rfl
    simp [quote] at h1 ⊢; omega)
  rw [unquote_quote] at hu
  obtain ⟨Q, hQ⟩ : ∃ Q, bs (quote s.data.toList) = Q := ⟨_, rfl⟩
  rw [hQ, bs_of] at hu
  rw [hQ]
  go_wp2_with fail
  refine hu.mono ?_
  rintro e w4 ⟨rfl, hb4⟩
  have H4 := Lib.hid (below_then H3.out hb4 (Nat.le_refl _))
  clear hb4 H3 hu
  simp only [spotV, spotC]
  go_wp2_with fail
  have hN := heap_alloc_new w4 (.cells #[.int .i64 0, .int .i64 0] TSp)
  have H5 := Lib.hid (below_then H4.out (below_new w4 (.cells #[.int .i64 0, .int .i64 0] TSp)) (Nat.le_refl _))
  clear H4
  refine (rquote_any s _ (by omega)).mono ?_
  rintro e w6 ⟨rfl, hb6⟩
  have H6 := Lib.hid (below_then H5.out hb6 (Nat.le_refl _))
  have hN6 := (hb6.block _ (lt_of_block hN)).trans hN
  have c0 : w6.cell? ⟨w4.heap.size, 0, none⟩ = some (.int .i64 0) := by rw [cell_of_row _ _ 0 _ _ _ hN6]; rfl
  have c1 : w6.cell? ⟨w4.heap.size, 1, none⟩ = some (.int .i64 0) := by rw [cell_of_row _ _ 1 _ _ _ hN6]; rfl
  rw [hQ]
  clear hb6 hN hN6 H5 hQ
  go_wp2_with fail
  go_ret
  exact ⟨rfl, H6.out⟩
end Go.Proofs.Ytlfhjmdbkifciaa
