/- PatternTrees: a pattern has just one tree, or is told to be wrong at the first byte that can't be. -/
import Derived.Test.YtlfhjmdbkifciaaPatRefTree
import Derived.Test.YtlfhjmdbkifciaaPatEscapes
namespace Go.Proofs.Ytlfhjmdbkifciaa
open Go.RowKit PM

theorem eq_spotV (x k : Int) (w : World) : (binOp .eql TSp (.agg #[.int .i64 x, .int .i64 k]) (.agg #[.int .i64 x, .int .i64 k])).run Try.prog w = .ok (.bool true) w := by
  rw [run_eql_struct]
  simp [go_sem]

/-- where there is no tree -/
theorem tree_not {r : TR} (h : ∀ t, r ≠ .ok t) : ∃ x k : Nat, (x = 2 ∨ x = 3 ∨ x = 6) ∧ ∀ w e w', TreeIs w r e w' → e = .returned (.tuple #[.agg #[.int .i64 0, .int .u64 0, .int .u64 0, .int .u64 0, .int .u64 0, .slice none 0 0], .agg #[.int .i64 x, .int .i64 k]]) ∧ Below w.heap.size w w' := by
  cases r with
  | ok t => exact absurd rfl (h t)
  | arg => exact ⟨2, 0, .inl rfl, fun w e w' h => h⟩
  | long => exact ⟨3, 64, .inr (.inl rfl), fun w e w' h => h⟩
  | bad k => exact ⟨6, k, .inr (.inr rfl), fun w e w' h => h⟩

theorem zero_cells : nodeV (.mk 0 noSet []) (.slice none 0 0) = .agg #[.int .i64 0, .int .u64 0, .int .u64 0, .int .u64 0, .int .u64 0, .slice none 0 0] := nodeV_op 0 [] _
theorem zero_ok : T.OK 100 (.mk 0 noSet []) := .mk (fun h => by omega) (by simp) (fun k hk => by cases hk)
theorem zero_same (w : World) : Calls Try.prog 16 #[.agg #[.int .i64 0, .int .u64 0, .int .u64 0, .int .u64 0, .int .u64 0, .slice none 0 0], .agg #[.int .i64 0, .int .u64 0, .int .u64 0, .int .u64 0, .int .u64 0, .slice none 0 0]] w
    fun e w' => e = .returned (.bool true) ∧ Below w.heap.size w w' := by
  have := same_any 100 (by omega) _ zero_ok (fun _ => True) (fun _ => True) _ _ w (IsT.nil 0 noSet) (IsT.nil 0 noSet)
  rw [zero_cells] at this
  exact this

/-- two objects, one behind the other -/
theorem two_at (w : World) (X Y : Array Value) (t1 t2 : TypeId) : ((w.alloc (.cells X t1)).alloc (.cells Y t2)).heap[w.heap.size]? = some (.cells X t1 (0, 0)) ∧ ((w.alloc (.cells X t1)).alloc (.cells Y t2)).heap[w.heap.size + 1]? = some (.cells Y t2 (0, 0)) ∧ Below w.heap.size w ((w.alloc (.cells X t1)).alloc (.cells Y t2)) := by
  have h1 := heap_alloc_new w (.cells X t1)
  have h2 := heap_alloc_new (w.alloc (.cells X t1)) (.cells Y t2)
  rw [World.size_alloc] at h2
  have b2 := below_new (w.alloc (.cells X t1)) (.cells Y t2)
  exact ⟨(b2.block _ (by simp)).trans h1, h2, two_below w _ _⟩

set_option maxRecDepth 100000 in
set_option maxHeartbeats 16000000 in
theorem patternTrees_walk (kind : Int) (s : ByteArray) (w : World) (h1 : s.size ≤ 9223372036854775807) :
    Calls Try.prog 3 #[.agg #[.int .i64 kind, .string s]] w fun e w' => e = .returned (.bool true) ∧ Below w.heap.size w w' := by
  have hB := heap_alloc_new w (.cells #[.int .i64 kind, .string s] TPat)
  have HB := Lib.hid hB; have H0 := Lib.hid (below_new w (.cells #[.int .i64 kind, .string s] TPat))
  clear hB
  go_enter Try.func3, Try.ntmps3
  go_wp2_with fail
  generalize w.alloc (.cells #[.int .i64 kind, .string s] TPat) = w0 at *
  generalize hb0 : w.heap.size = b0 at HB ⊢
  refine (works_any w0).mono ?_
  rintro e w1 ⟨rfl, hb⟩
  have H1 := Lib.hid (below_then H0.out hb (Nat.le_refl _))
  have hB1 := (hb.block _ (lt_of_block HB.out)).trans HB.out
  have HB1 := Lib.hid hB1
  have c0 : w1.cell? ⟨b0, 0, none⟩ = some (.int .i64 kind) := by rw [cell_of_row _ _ _ _ _ _ hB1]; rfl
  have c1 : w1.cell? ⟨b0, 1, none⟩ = some (.string s) := by rw [cell_of_row _ _ _ _ _ _ hB1]; rfl
  clear hb HB H0 hB1
  go_wp2_with fail
  clear c0 c1
  refine (tree_any kind s w1 h1).mono ?_
  rintro e w2 hm
  rcases ht : tree kind s.data.toList with t | _ | _ | k
  case ok =>
    rw [ht] at hm
    obtain ⟨K, rfl, hK, hb⟩ := hm
    obtain ⟨A, c, rfl⟩ := hK.slice
    have H2 := Lib.hid (below_then H1.out hb (Nat.le_refl _))
    have HB2 := Lib.hid ((hb.block _ (lt_of_block HB1.out)).trans HB1.out)
    have HT := Lib.hid ht
    have HOK := Lib.hid (tree_ok ht).1
    clear hb H1 HB1 ht
    simp only [nodeV, spotV, spotC, nodeC]
    go_upto_region 4 with (fail)
    obtain ⟨hA, hAB⟩ := TrAt.made hK
    have HA := Lib.hid hA; have H3 := Lib.hid (below_then H2.out hAB (Nat.le_refl _))
    have hB3 := (hAB.block _ (lt_of_block HB2.out)).trans HB2.out
    clear hA hAB hK H2 HB2
    generalize (w2.alloc (.cells #[.int .i64 t.op, .int .u64 (word t.set 0), .int .u64 (word t.set 1), .int .u64 (word t.set 2), .int .u64 (word t.set 3), .slice A t.kids.length c] TN)).alloc (.cells #[.int .i64 0, .int .i64 0] TSp) = w3 at *
    generalize w2.heap.size = B at *
    have c0 : w3.cell? ⟨b0, 0, none⟩ = some (.int .i64 kind) := by rw [cell_of_row _ _ _ _ _ _ hB3]; rfl
    have c1 : w3.cell? ⟨b0, 1, none⟩ = some (.string s) := by rw [cell_of_row _ _ _ _ _ _ hB3]; rfl
    clear hB3
    go_wp2_with fail
    clear c0 c1
    refine (rtree_any kind s w3 h1).mono ?_
    rintro e w4 hm
    rw [HT.out] at hm
    obtain ⟨K', rfl, hK, hb⟩ := hm
    obtain ⟨A', c', rfl⟩ := hK.slice
    have H4 := Lib.hid (below_then H3.out hb (Nat.le_refl _))
    replace HA := Lib.hid (HA.out.on hb)
    clear hb H3
    simp only [nodeV, spotV, spotC, nodeC]
    go_upto_region 5 with (fail)
    obtain ⟨hA, hAB⟩ := TrAt.made hK
    have HA' := Lib.hid hA; have H5 := Lib.hid (below_then H4.out hAB (Nat.le_refl _))
    replace HA := Lib.hid (HA.out.on hAB)
    clear hA hAB hK H4
    generalize (w4.alloc (.cells #[.int .i64 t.op, .int .u64 (word t.set 0), .int .u64 (word t.set 1), .int .u64 (word t.set 2), .int .u64 (word t.set 3), .slice A' t.kids.length c'] TN)).alloc (.cells #[.int .i64 0, .int .i64 0] TSp) = w5 at *
    generalize w4.heap.size = B' at *
    obtain ⟨r0, r1⟩ := HA.out.err
    obtain ⟨r2, r3⟩ := HA'.out.err
    obtain ⟨k0, k1, k2, k3, k4, k5⟩ := HA.out.cells
    obtain ⟨l0, l1, l2, l3, l4, l5⟩ := HA'.out.cells
    have heq := eq_spot
    go_wp2_with fail
    refine (TrAt.same HA.out HA'.out HOK.out).mono ?_
    rintro e w6 ⟨rfl, hb⟩
    have H6 := Lib.hid (below_then H5.out hb (Nat.le_refl _))
    clear hb
    go_wp2_with fail
    go_ret
    exact ⟨rfl, hb0 ▸ H6.out⟩
  all_goals
    obtain ⟨x, k, -, hx⟩ := tree_not (r := tree kind s.data.toList) (by rw [ht]; intro t e; cases e)
    have HX := Lib.hid hx
    obtain ⟨rfl, hb⟩ := HX.out _ _ _ hm
    have H2 := Lib.hid (below_then H1.out hb (Nat.le_refl _))
    have HB2 := Lib.hid ((hb.block _ (lt_of_block HB1.out)).trans HB1.out)
    clear hm hb H1 HB1 ht hx
    go_upto_region 4 with (fail)
    obtain ⟨n1, n2, hAB⟩ := two_at w2 #[.int .i64 0, .int .u64 0, .int .u64 0, .int .u64 0, .int .u64 0, .slice none 0 0] #[.int .i64 x, .int .i64 k] TN TSp
    have HN1 := Lib.hid n1; have HN2 := Lib.hid n2
    have H3 := Lib.hid (below_then H2.out hAB (Nat.le_refl _))
    have hB3 := (hAB.block _ (lt_of_block HB2.out)).trans HB2.out
    clear n1 n2 hAB H2 HB2
    generalize (w2.alloc (.cells #[.int .i64 0, .int .u64 0, .int .u64 0, .int .u64 0, .int .u64 0, .slice none 0 0] TN)).alloc (.cells #[.int .i64 x, .int .i64 k] TSp) = w3 at *
    generalize w2.heap.size = B at *
    have c0 : w3.cell? ⟨b0, 0, none⟩ = some (.int .i64 kind) := by rw [cell_of_row _ _ _ _ _ _ hB3]; rfl
    have c1 : w3.cell? ⟨b0, 1, none⟩ = some (.string s) := by rw [cell_of_row _ _ _ _ _ _ hB3]; rfl
    clear hB3
    go_wp2_with fail
    clear c0 c1
    refine (rtree_any kind s w3 h1).mono ?_
    rintro e w4 hm
    obtain ⟨rfl, hb⟩ := HX.out _ _ _ hm
    have H4 := Lib.hid (below_then H3.out hb (Nat.le_refl _))
    replace HN1 := Lib.hid ((hb.block _ (lt_of_block HN1.out)).trans HN1.out)
    replace HN2 := Lib.hid ((hb.block _ (lt_of_block HN2.out)).trans HN2.out)
    clear hb H3 hm
    go_upto_region 5 with (fail)
    obtain ⟨n3, n4, hAB⟩ := two_at w4 #[.int .i64 0, .int .u64 0, .int .u64 0, .int .u64 0, .int .u64 0, .slice none 0 0] #[.int .i64 x, .int .i64 k] TN TSp
    have H5 := Lib.hid (below_then H4.out hAB (Nat.le_refl _))
    have n1 := (hAB.block _ (lt_of_block HN1.out)).trans HN1.out
    have n2 := (hAB.block _ (lt_of_block HN2.out)).trans HN2.out
    clear hAB H4 HN1 HN2
    generalize (w4.alloc (.cells #[.int .i64 0, .int .u64 0, .int .u64 0, .int .u64 0, .int .u64 0, .slice none 0 0] TN)).alloc (.cells #[.int .i64 x, .int .i64 k] TSp) = w5 at *
    generalize w4.heap.size = B' at *
    have r0 : w5.cell? ⟨B + 1, 0, none⟩ = some (.int .i64 x) := by rw [cell_of_row _ _ _ _ _ _ n2]; rfl
    have r1 : w5.cell? ⟨B + 1, 1, none⟩ = some (.int .i64 k) := by rw [cell_of_row _ _ _ _ _ _ n2]; rfl
    have r2 : w5.cell? ⟨B' + 1, 0, none⟩ = some (.int .i64 x) := by rw [cell_of_row _ _ _ _ _ _ n4]; rfl
    have r3 : w5.cell? ⟨B' + 1, 1, none⟩ = some (.int .i64 k) := by rw [cell_of_row _ _ _ _ _ _ n4]; rfl
    have k0 : w5.cell? ⟨B, 0, none⟩ = some (.int .i64 0) := by rw [cell_of_row _ _ _ _ _ _ n1]; rfl
    have k1 : w5.cell? ⟨B, 1, none⟩ = some (.int .u64 0) := by rw [cell_of_row _ _ _ _ _ _ n1]; rfl
    have k2 : w5.cell? ⟨B, 2, none⟩ = some (.int .u64 0) := by rw [cell_of_row _ _ _ _ _ _ n1]; rfl
    have k3 : w5.cell? ⟨B, 3, none⟩ = some (.int .u64 0) := by rw [cell_of_row _ _ _ _ _ _ n1]; rfl
    have k4 : w5.cell? ⟨B, 4, none⟩ = some (.int .u64 0) := by rw [cell_of_row _ _ _ _ _ _ n1]; rfl
    have k5 : w5.cell? ⟨B, 5, none⟩ = some (.slice none 0 0) := by rw [cell_of_row _ _ _ _ _ _ n1]; rfl
    have l0 : w5.cell? ⟨B', 0, none⟩ = some (.int .i64 0) := by rw [cell_of_row _ _ _ _ _ _ n3]; rfl
    have l1 : w5.cell? ⟨B', 1, none⟩ = some (.int .u64 0) := by rw [cell_of_row _ _ _ _ _ _ n3]; rfl
    have l2 : w5.cell? ⟨B', 2, none⟩ = some (.int .u64 0) := by rw [cell_of_row _ _ _ _ _ _ n3]; rfl
    have l3 : w5.cell? ⟨B', 3, none⟩ = some (.int .u64 0) := by rw [cell_of_row _ _ _ _ _ _ n3]; rfl
    have l4 : w5.cell? ⟨B', 4, none⟩ = some (.int .u64 0) := by rw [cell_of_row _ _ _ _ _ _ n3]; rfl
    have l5 : w5.cell? ⟨B', 5, none⟩ = some (.slice none 0 0) := by rw [cell_of_row _ _ _ _ _ _ n3]; rfl
    have heq := eq_spotV x k
    clear n1 n2 n3 n4 HX
    go_wp2_with fail
    refine (zero_same w5).mono ?_
    rintro e w6 ⟨rfl, hb⟩
    have H6 := Lib.hid (below_then H5.out hb (Nat.le_refl _))
    clear hb k0 k1 k2 k3 k4 k5 l0 l1 l2 l3 l4 l5 r0 r1 r2 r3
    go_wp2_with fail
    go_ret
    exact ⟨rfl, hb0 ▸ H6.out⟩
end Go.Proofs.Ytlfhjmdbkifciaa
