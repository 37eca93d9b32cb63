/- PatternEmpties: it is told whether a pattern may match nothing. -/
import Derived.Test.YtlfhjmdbkifciaaPatEmpty
import Derived.Test.YtlfhjmdbkifciaaPatGroupsA
import Derived.Deep.RegionHeld3
namespace Go.Proofs.Ytlfhjmdbkifciaa
open Go.RowKit PM

namespace PM
def emptyP (kind : Int) (s : List UInt8) : Bool := match tree kind s with | .ok t => emptyT t | _ => false
end PM

/-- the document's Tree: a tree, or an error -/
theorem rtree_or (kind : Int) (s : ByteArray) (w : World) (hs : s.size ≤ 9223372036854775807) :
    Calls Try.prog 15 #[.agg #[.int .i64 kind, .string s]] w fun e w' =>
      (∃ t A c, tree kind s.data.toList = .ok t ∧ e = .returned (.tuple #[.agg #[.int .i64 t.op, .int .u64 (word t.set 0), .int .u64 (word t.set 1), .int .u64 (word t.set 2), .int .u64 (word t.set 3), .slice A t.kids.length c], .agg #[.int .i64 0, .int .i64 0]]) ∧
        IsT w' (fun b => w.heap.size ≤ b) (.slice A t.kids.length c) t ∧ Below w.heap.size w w') ∨
      (∃ x k : Nat, (x = 2 ∨ x = 3 ∨ x = 6) ∧ (∀ t, tree kind s.data.toList ≠ .ok t) ∧ e = .returned (.tuple #[.agg #[.int .i64 0, .int .u64 0, .int .u64 0, .int .u64 0, .int .u64 0, .slice none 0 0], .agg #[.int .i64 x, .int .i64 k]]) ∧ Below w.heap.size w w') := by
  refine (rtree_any kind s w hs).mono fun e w' h => ?_
  cases hr : tree kind s.data.toList with
  | ok t =>
    rw [hr] at h
    obtain ⟨K, rfl, hK, hb⟩ := h
    obtain ⟨A, c, rfl⟩ := hK.slice
    exact .inl ⟨t, A, c, rfl, rfl, hK, hb⟩
  | arg => rw [hr] at h; obtain ⟨rfl, hb⟩ := h; exact .inr ⟨2, 0, .inl rfl, (by intro t e; cases e), rfl, hb⟩
  | long => rw [hr] at h; obtain ⟨rfl, hb⟩ := h; exact .inr ⟨3, 64, .inr (.inl rfl), (by intro t e; cases e), rfl, hb⟩
  | bad k => rw [hr] at h; obtain ⟨rfl, hb⟩ := h; exact .inr ⟨6, k, .inr (.inr rfl), (by intro t e; cases e), rfl, hb⟩

set_option maxRecDepth 100000 in
set_option maxHeartbeats 8000000 in
theorem pempty_any (kind : Int) (s : ByteArray) (w : World) (hs : s.size ≤ 9223372036854775807) :
    Calls Try.prog 27 #[.agg #[.int .i64 kind, .string s]] w fun e w' => e = .returned (.bool (emptyP kind s.data.toList)) ∧ Below w.heap.size w w' := by
  have H0 := Lib.hid (below_new w (.cells #[.int .i64 kind, .string s] TPat))
  go_enter Try.func27, Try.ntmps27
  go_wp2_with fail
  generalize w.alloc (.cells #[.int .i64 kind, .string s] TPat) = w1 at *
  refine (tree_or kind s w1 hs).mono ?_
  rintro e w2 (⟨t, A, c, ht, rfl, hK, hb⟩ | ⟨x, k, hx, hno, rfl, hb⟩)
  · have HP : Hid (emptyP kind s.data.toList = emptyT t) := Lib.hid (by unfold emptyP; rw [ht])
    have HOK := Lib.hid (tree_ok ht).1
    have H2 := Lib.hid (below_then H0.out hb (Nat.le_refl _))
    clear ht hb H0
    go_upto_region 2 with (fail)
    obtain ⟨hA, hAB⟩ := TrAt.made hK
    have HA := Lib.hid hA; have H3 := Lib.hid (below_then H2.out hAB (Nat.le_refl _))
    clear hA hAB hK H2
    generalize (w2.alloc (.cells #[.int .i64 t.op, .int .u64 (word t.set 0), .int .u64 (word t.set 1), .int .u64 (word t.set 2), .int .u64 (word t.set 3), .slice A t.kids.length c] TN)).alloc (.cells #[.int .i64 0, .int .i64 0] TSp) = w3 at *
    generalize w2.heap.size = B at *
    obtain ⟨r0, r1⟩ := HA.out.err
    obtain ⟨k0, k1, k2, k3, k4, k5⟩ := HA.out.cells
    go_wp2_with fail
    have hC := empty_any 100 (by omega) t HOK.out _ _ w3 HA.out.tree
    simp only [nodeV, nodeC] at hC
    refine hC.mono ?_
    rintro e w4 ⟨rfl, hb⟩
    have H4 := Lib.hid (below_then H3.out hb (Nat.le_refl _))
    clear hb hC k0 k1 k2 k3 k4 k5 r0 r1
    go_wp2_with fail
    go_ret
    exact ⟨by rw [HP.out]; rfl, H4.out⟩
  · have HP : Hid (emptyP kind s.data.toList = false) := Lib.hid (by
      unfold emptyP
      split
      · rename_i t h; exact absurd h (hno t)
      · rfl)
    have H2 := Lib.hid (below_then H0.out hb (Nat.le_refl _))
    have HX := Lib.hid hx
    clear hb hx H0 hno
    go_upto_region 2 with (fail)
    have hs := spot_made w2 (.cells #[.int .i64 0, .int .u64 0, .int .u64 0, .int .u64 0, .int .u64 0, .slice none 0 0] TN) #[.int .i64 x, .int .i64 k]
    have hAB := two_below w2 (.cells #[.int .i64 0, .int .u64 0, .int .u64 0, .int .u64 0, .int .u64 0, .slice none 0 0] TN) (.cells #[.int .i64 x, .int .i64 k] TSp)
    have H3 := Lib.hid (below_then H2.out hAB (Nat.le_refl _))
    generalize (w2.alloc (.cells #[.int .i64 0, .int .u64 0, .int .u64 0, .int .u64 0, .int .u64 0, .slice none 0 0] TN)).alloc (.cells #[.int .i64 x, .int .i64 k] TSp) = w3 at *
    have r1 := spot_cell hs
    have x0 : ((x : Int) == 0) = false := by rw [beq_eq_false_iff_ne]; have := HX.out; omega
    clear hs hAB H2
    go_wp2_with fail
    go_ret
    exact ⟨by rw [HP.out]; rfl, H3.out⟩

set_option maxRecDepth 100000 in
set_option maxHeartbeats 8000000 in
theorem rempty_any (kind : Int) (s : ByteArray) (w : World) (hs : s.size ≤ 9223372036854775807) :
    Calls Try.prog 28 #[.agg #[.int .i64 kind, .string s]] w fun e w' => e = .returned (.bool (emptyP kind s.data.toList)) ∧ Below w.heap.size w w' := by
  have H0 := Lib.hid (below_new w (.cells #[.int .i64 kind, .string s] TPat))
  go_enter Try.func28, Try.ntmps28
  go_wp2_with fail
  generalize w.alloc (.cells #[.int .i64 kind, .string s] TPat) = w1 at *
  refine (rtree_or kind s w1 hs).mono ?_
  rintro e w2 (⟨t, A, c, ht, rfl, hK, hb⟩ | ⟨x, k, hx, hno, rfl, hb⟩)
  · have HP : Hid (emptyP kind s.data.toList = emptyT t) := Lib.hid (by unfold emptyP; rw [ht])
    have HOK := Lib.hid (tree_ok ht).1
    have H2 := Lib.hid (below_then H0.out hb (Nat.le_refl _))
    clear ht hb H0
    go_upto_region 2 with (fail)
    obtain ⟨hA, hAB⟩ := TrAt.made hK
    have HA := Lib.hid hA; have H3 := Lib.hid (below_then H2.out hAB (Nat.le_refl _))
    clear hA hAB hK H2
    generalize (w2.alloc (.cells #[.int .i64 t.op, .int .u64 (word t.set 0), .int .u64 (word t.set 1), .int .u64 (word t.set 2), .int .u64 (word t.set 3), .slice A t.kids.length c] TN)).alloc (.cells #[.int .i64 0, .int .i64 0] TSp) = w3 at *
    generalize w2.heap.size = B at *
    obtain ⟨r0, r1⟩ := HA.out.err
    obtain ⟨k0, k1, k2, k3, k4, k5⟩ := HA.out.cells
    go_wp2_with fail
    have hC := nothing_any 100 (by omega) t HOK.out _ _ w3 HA.out.tree
    simp only [nodeV, nodeC] at hC
    refine hC.mono ?_
    rintro e w4 ⟨rfl, hb⟩
    have H4 := Lib.hid (below_then H3.out hb (Nat.le_refl _))
    clear hb hC k0 k1 k2 k3 k4 k5 r0 r1
    go_wp2_with fail
    go_ret
    exact ⟨by rw [HP.out]; rfl, H4.out⟩
  · have HP : Hid (emptyP kind s.data.toList = false) := Lib.hid (by
      unfold emptyP
      split
      · rename_i t h; exact absurd h (hno t)
      · rfl)
    have H2 := Lib.hid (below_then H0.out hb (Nat.le_refl _))
    have HX := Lib.hid hx
    clear hb hx H0 hno
    go_upto_region 2 with (fail)
    have hs := spot_made w2 (.cells #[.int .i64 0, .int .u64 0, .int .u64 0, .int .u64 0, .int .u64 0, .slice none 0 0] TN) #[.int .i64 x, .int .i64 k]
    have hAB := two_below w2 (.cells #[.int .i64 0, .int .u64 0, .int .u64 0, .int .u64 0, .int .u64 0, .slice none 0 0] TN) (.cells #[.int .i64 x, .int .i64 k] TSp)
    have H3 := Lib.hid (below_then H2.out hAB (Nat.le_refl _))
    generalize (w2.alloc (.cells #[.int .i64 0, .int .u64 0, .int .u64 0, .int .u64 0, .int .u64 0, .slice none 0 0] TN)).alloc (.cells #[.int .i64 x, .int .i64 k] TSp) = w3 at *
    have r1 := spot_cell hs
    have x0 : ((x : Int) == 0) = false := by rw [beq_eq_false_iff_ne]; have := HX.out; omega
    clear hs hAB H2
    go_wp2_with fail
    go_ret
    exact ⟨by rw [HP.out]; rfl, H3.out⟩

set_option maxRecDepth 100000 in
set_option maxHeartbeats 8000000 in
theorem patternEmpties_walk (kind : Int) (s : ByteArray) (w : World) (h1 : s.size ≤ 9223372036854775807) :
    Calls Try.prog 12 #[.agg #[.int .i64 kind, .string s]] w fun e w' => e = .returned (.bool true) ∧ Below w.heap.size w w' := by
  have hB := heap_alloc_new w (.cells #[.int .i64 kind, .string s] TPat)
  have HB := Lib.hid hB; have H0 := Lib.hid (below_new w (.cells #[.int .i64 kind, .string s] TPat))
  clear hB
  go_enter Try.func12, Try.ntmps12
  go_wp2_with fail
  generalize w.alloc (.cells #[.int .i64 kind, .string s] TPat) = w0 at *
  generalize hb0 : w.heap.size = b0 at HB ⊢
  refine (works_any w0).mono ?_
  rintro e w1 ⟨rfl, hb⟩
  have H1 := Lib.hid (below_then H0.out hb (Nat.le_refl _))
  have hB1 := (hb.block _ (lt_of_block HB.out)).trans HB.out
  have c0 : w1.cell? ⟨b0, 0, none⟩ = some (.int .i64 kind) := by rw [cell_of_row _ _ _ _ _ _ hB1]; rfl
  have c1 : w1.cell? ⟨b0, 1, none⟩ = some (.string s) := by rw [cell_of_row _ _ _ _ _ _ hB1]; rfl
  clear hb HB H0 hB1
  generalize emptyP kind s.data.toList = r at *
  go_upto_region 3 with (fail)
  have hP := fun W => pempty_any kind s W h1
  have hQ := fun W => rempty_any kind s W h1
  generalize emptyP kind s.data.toList = r at hP hQ
  have HP := Lib.hid hP; have HQ := Lib.hid hQ
  clear hP hQ
  go_region_held3 (fun w' => w'.cell? ⟨b0, 0, none⟩ = some (.int .i64 kind) ∧ w'.cell? ⟨b0, 1, none⟩ = some (.string s))
    (first | exact ⟨c0, c1⟩ | exact ⟨cell_below (cell_below c0 hb2) hb5, cell_below (cell_below c1 hb2) hb5⟩ | exact ⟨cell_below c0 hb2, cell_below c1 hb2⟩)
    (first
      | (go_at_call 27; refine (HP.out w1.drew).mono ?_; rintro e w4 ⟨rfl, hb⟩; have hb2 : Below w1.heap.size w1 w4 := ⟨hb.os, hb.tape, hb.output, hb.size, fun k hk => hb.block k hk⟩; have H4 := Lib.hid (below_then H1.out hb2 (Nat.le_refl _)); clear hb)
      | (go_at_call 28; refine (HQ.out w4).mono ?_; rintro e w5 ⟨rfl, hb5⟩; have H5 := Lib.hid (below_then H4.out hb5 (Nat.le_refl _))))
  all_goals (go_wp2_with fail; go_ret; exact ⟨by simp, hb0 ▸ H5.out⟩)
end Go.Proofs.Ytlfhjmdbkifciaa
