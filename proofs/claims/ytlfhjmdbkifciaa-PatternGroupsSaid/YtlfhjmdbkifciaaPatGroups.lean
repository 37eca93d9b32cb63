/- PatternGroups: brackets around a regular pattern leave its tree as it is, and what stands around the brackets is put on top. -/
import Derived.Test.YtlfhjmdbkifciaaPatGroupsA
import Derived.Deep.RegionHeld3
namespace Go.Proofs.Ytlfhjmdbkifciaa
open Go.RowKit PM

theorem neq_spot (w : World) : (binOp .neq TSp (.agg #[.int .i64 0, .int .i64 0]) (.agg #[.int .i64 0, .int .i64 0])).run Try.prog w = .ok (.bool false) w := by kernel_rfl

set_option maxRecDepth 100000 in
set_option maxHeartbeats 16000000 in
theorem patternGroups_walk (a b : ByteArray) (w : World) (ha : a.size ≤ 9223372036854775807) (hb : b.size ≤ 9223372036854775807) : Calls Try.prog 6 #[.string a, .string b] w fun e w' => e = .returned (.bool true) ∧ Below w.heap.size w w' := by
  go_enter Try.func6, Try.ntmps6
  go_wp2_with fail
  refine (works_any w).mono ?_
  rintro e w1 ⟨rfl, hb1⟩
  have H1 := Lib.hid hb1
  clear hb1
  go_wp2_with fail
  refine (tree_or 3 a w1 (by omega)).mono ?_
  rintro e w2 (⟨t, A, c, ht, rfl, hK, hb⟩ | ⟨x, k, hx, hno, rfl, hb⟩)
  · have H2 := Lib.hid (below_then H1.out hb (Nat.le_refl _))
    have HT := Lib.hid ht
    clear ht hb H1
    go_wp2_with fail
    obtain ⟨hA, hAB⟩ := TrAt.made hK
    have HA := Lib.hid hA; have H3 := Lib.hid (below_then H2.out hAB (Nat.le_refl _))
    clear hA hAB hK H2
    generalize (w2.alloc (.cells #[.int .i64 t.op, .int .u64 (word t.set 0), .int .u64 (word t.set 1), .int .u64 (word t.set 2), .int .u64 (word t.set 3), .slice A t.kids.length c] TN)).alloc (.cells #[.int .i64 0, .int .i64 0] TSp) = w3 at *
    generalize w2.heap.size = B at *
    refine (tree_or 3 b w3 (by omega)).mono ?_
    rintro e w4 (⟨u, A', c', hu, rfl, hK, hb⟩ | ⟨x, k, hx, hno, rfl, hb⟩)
    · have H4 := Lib.hid (below_then H3.out hb (Nat.le_refl _))
      have HT' := Lib.hid hu
      replace HA := Lib.hid (HA.out.on hb)
      clear hu hb H3
      go_upto_region 5 with (fail)
      obtain ⟨hA, hAB⟩ := TrAt.made hK
      have HA' := Lib.hid hA; have H5 := Lib.hid (below_then H4.out hAB (Nat.le_refl _))
      replace HA := Lib.hid (HA.out.on hAB)
      clear hA hAB hK H4
      generalize (w4.alloc (.cells #[.int .i64 u.op, .int .u64 (word u.set 0), .int .u64 (word u.set 1), .int .u64 (word u.set 2), .int .u64 (word u.set 3), .slice A' u.kids.length c'] TN)).alloc (.cells #[.int .i64 0, .int .i64 0] TSp) = w5 at *
      generalize w4.heap.size = B' at *
      have r1 := HA.out.err.1
      have r2 := HA'.out.err.1
      have l1 : a.size ≤ 64 := (tree_re HT.out).1
      have l2 : b.size ≤ 64 := (tree_re HT'.out).1
      by_cases hl : 64 < a.size + b.size + 5
      · have hl2 : (64 : Int) < a.size + b.size + 5 := by omega
        go_wp2_with fail
        go_ret
        exact ⟨rfl, H5.out⟩
      · have hl2 : (a.size : Int) + b.size + 5 ≤ 64 := by omega
        have x1 : ¬ 9223372036854775807 < 1 + a.size := by omega
        obtain ⟨k10, k11, k12, k13, k14, k15⟩ := HA.out.cells
        obtain ⟨k20, k21, k22, k23, k24, k25⟩ := HA'.out.cells
        have z1 := lt_of_block HA.out.node
        have z2 := lt_of_block HA'.out.node
        have z11 : B < w5.heap.size + 1 := by omega
        have z12 : B < w5.heap.size + 1 + 1 := by omega
        have z13 : B < w5.heap.size + 1 + 1 + 1 := by omega
        have z14 : B < w5.heap.size + 1 + 1 + 1 + 1 := by omega
        have z15 : B < w5.heap.size + 2 := by omega
        have z16 : B < w5.heap.size + 3 := by omega
        have z17 : B < w5.heap.size + 4 := by omega
        have z21 : B' < w5.heap.size + 1 := by omega
        have z22 : B' < w5.heap.size + 1 + 1 := by omega
        have z23 : B' < w5.heap.size + 1 + 1 + 1 := by omega
        have z24 : B' < w5.heap.size + 1 + 1 + 1 + 1 := by omega
        have z25 : B' < w5.heap.size + 2 := by omega
        have z26 : B' < w5.heap.size + 3 := by omega
        have z27 : B' < w5.heap.size + 4 := by omega
        go_upto_region 8 with (fail)
        obtain ⟨hG, hGB⟩ := gW_ok a b t u A A' c c' w5 (by omega) HT.out HT'.out HA.out.tree HA'.out.tree
        have HG := Lib.hid hG; have H6 := Lib.hid (below_then H5.out hGB (Nat.le_refl _))
        clear hG hGB H5 HA HA' HT HT' r1 r2 k10 k11 k12 k13 k14 k15 k20 k21 k22 k23 k24 k25 z1 z2 z11 z12 z13 z14 z15 z16 z17 z21 z22 z23 z24 z25 z26 z27 x1 hl hl2
        change Code.wp _ _ _ _ (gW a b t u (.slice A t.kids.length c) (.slice A' u.kids.length c') w5)
        generalize gW a b t u (.slice A t.kids.length c) (.slice A' u.kids.length c') w5 = w6 at *
        generalize hM : w5.heap.size + 5 = M at HG
        obtain rfl : w5.heap.size + 1 + 1 + 1 + 1 + 1 = M := hM
        generalize w5.heap.size + 1 + 1 + 1 + 1 + 1 = M at *
        go_wp2_with fail
        go_loopg [10] 7 (fun k v10 wr => ∃ i : Nat, v10 = .int .i64 i ∧ i ≤ 6 ∧ 7 - i ≤ k ∧ Hid (GT wr M ∧ Below w.heap.size w wr))
        case atStart => exact ⟨0, rfl, by omega, by omega, Lib.hid ⟨HG.out, H6.out⟩⟩
        case round =>
          clear HG H6
          obtain ⟨i, rfl, hi, hik, HG⟩ := hrel
          by_cases hlt : i < 6
          · have hlt2 : (i : Int) < 6 := by omega
            have hi0 : (0 : Int) ≤ i := by omega
            obtain ⟨S, t', A1, c1, hE⟩ := HG.out.1 i hlt
            have k0 := hE.text
            have HE := Lib.hid hE
            have hS := hE.size
            clear hE
            go_wp2_with fail
            refine (tree_any 3 S wr (by omega)).mono ?_
            rintro e w8 hm
            rw [HE.out.tree] at hm
            obtain ⟨K, rfl, hK, hb⟩ := hm
            obtain ⟨A2, c2, rfl⟩ := hK.slice
            have HG8 := Lib.hid (show GT w8 M ∧ Below w.heap.size w w8 from ⟨HG.out.1.on hb, below_then HG.out.2 hb (Nat.le_refl _)⟩)
            have HE8 := Lib.hid (HE.out.on hb)
            clear HG HE hb k0 hS
            simp only [nodeV, spotV, spotC, nodeC]
            go_upto_region 12 with (fail)
            obtain ⟨hA, hAB⟩ := TrAt.made hK
            have HA := Lib.hid hA
            have HG9 := Lib.hid (show GT _ M ∧ Below w.heap.size w _ from ⟨HG8.out.1.on hAB, below_then HG8.out.2 hAB (Nat.le_refl _)⟩)
            have HE9 := Lib.hid (HE8.out.on hAB)
            clear hA hAB hK HG8 HE8
            generalize (w8.alloc (.cells #[.int .i64 t'.op, .int .u64 (word t'.set 0), .int .u64 (word t'.set 1), .int .u64 (word t'.set 2), .int .u64 (word t'.set 3), .slice A2 t'.kids.length c2] TN)).alloc (.cells #[.int .i64 0, .int .i64 0] TSp) = w9 at *
            generalize w8.heap.size = C at *
            obtain ⟨k0, k1, k2, k3, k4, k5⟩ := HA.out.cells
            obtain ⟨r0, r1⟩ := HA.out.err
            have n0 := HE9.out.node 0 _ rfl; have n1 := HE9.out.node 1 _ rfl; have n2 := HE9.out.node 2 _ rfl; have n3 := HE9.out.node 3 _ rfl; have n4 := HE9.out.node 4 _ rfl; have n5 := HE9.out.node 5 _ rfl
            simp only [Nat.add_zero] at n0
            have hC : ∀ W, Below w9.heap.size w9 W → Calls Try.prog 16 #[nodeV t' (.slice A2 t'.kids.length c2), nodeV t' (.slice A1 t'.kids.length c1)] W fun e w' => e = .returned (.bool true) ∧ Below W.heap.size W w' := fun W hW =>
              same_any 100 (by omega) t' HE9.out.ok _ _ _ _ W (HA.out.tree.on hW) (HE9.out.lies.on hW)
            simp only [nodeV, nodeC] at hC
            have HC := Lib.hid hC
            have hne := neq_spot
            clear hC
            go_region_held3 (fun w' => w'.cell? ⟨C, 0, none⟩ = some (.int .i64 t'.op) ∧ w'.cell? ⟨C, 1, none⟩ = some (.int .u64 (word t'.set 0)) ∧ w'.cell? ⟨C, 2, none⟩ = some (.int .u64 (word t'.set 1)) ∧ w'.cell? ⟨C, 3, none⟩ = some (.int .u64 (word t'.set 2)) ∧ w'.cell? ⟨C, 4, none⟩ = some (.int .u64 (word t'.set 3)) ∧ w'.cell? ⟨C, 5, none⟩ = some (.slice A2 t'.kids.length c2) ∧
                w'.cell? ⟨C + 1, 0, none⟩ = some (.int .i64 0) ∧ w'.cell? ⟨C + 1, 1, none⟩ = some (.int .i64 0) ∧
                w'.cell? ⟨M, i * 7 + 1, none⟩ = some (.int .i64 t'.op) ∧ w'.cell? ⟨M, i * 7 + 1 + 1, none⟩ = some (.int .u64 (word t'.set 0)) ∧ w'.cell? ⟨M, i * 7 + 1 + 1 + 1, none⟩ = some (.int .u64 (word t'.set 1)) ∧ w'.cell? ⟨M, i * 7 + 1 + 1 + 1 + 1, none⟩ = some (.int .u64 (word t'.set 2)) ∧ w'.cell? ⟨M, i * 7 + 1 + 1 + 1 + 1 + 1, none⟩ = some (.int .u64 (word t'.set 3)) ∧ w'.cell? ⟨M, i * 7 + 1 + 1 + 1 + 1 + 1 + 1, none⟩ = some (.slice A1 t'.kids.length c1))
              (first | exact ⟨k0, k1, k2, k3, k4, k5, r0, r1, n0, n1, n2, n3, n4, n5⟩ | exact ⟨cell_below k0 hb2, cell_below k1 hb2, cell_below k2 hb2, cell_below k3 hb2, cell_below k4 hb2, cell_below k5 hb2, cell_below r0 hb2, cell_below r1 hb2, cell_below n0 hb2, cell_below n1 hb2, cell_below n2 hb2, cell_below n3 hb2, cell_below n4 hb2, cell_below n5 hb2⟩)
              (first | (go_at_call 16; refine (HC.out w9.drew ⟨rfl, rfl, rfl, Nat.le_refl _, fun _ _ => rfl⟩).mono ?_; rintro e w10 ⟨rfl, hb⟩; have hb2 : Below w9.heap.size w9 w10 := ⟨hb.os, hb.tape, hb.output, hb.size, fun k hk => hb.block k hk⟩; have HG10 := Lib.hid (show GT w10 M ∧ Below w.heap.size w w10 from ⟨HG9.out.1.on hb2, below_then HG9.out.2 hb2 (Nat.le_refl _)⟩); clear hb))
            clear k0 k1 k2 k3 k4 k5 r0 r1 n0 n1 n2 n3 n4 n5 hne HC HG9 HE9 HA
            go_wp2_with fail
            go_roundg (gk - 1)
            case measure => omega
            case rel => exact ⟨i + 1, by go_num, by omega, by omega, HG10⟩
          · obtain rfl : i = 6 := by omega
            go_wp2_with fail
            go_ret
            exact ⟨rfl, HG.out.2⟩
    · have H4 := Lib.hid (below_then H3.out hb (Nat.le_refl _))
      replace HA := Lib.hid (HA.out.on hb)
      have HX := Lib.hid hx
      clear hb H3 hx
      go_upto_region 5 with (fail)
      have hs := spot_made w4 (.cells #[.int .i64 0, .int .u64 0, .int .u64 0, .int .u64 0, .int .u64 0, .slice none 0 0] TN) #[.int .i64 x, .int .i64 k]
      have hAB := two_below w4 (.cells #[.int .i64 0, .int .u64 0, .int .u64 0, .int .u64 0, .int .u64 0, .slice none 0 0] TN) (.cells #[.int .i64 x, .int .i64 k] TSp)
      have H5 := Lib.hid (below_then H4.out hAB (Nat.le_refl _))
      replace HA := Lib.hid (HA.out.on hAB)
      generalize (w4.alloc (.cells #[.int .i64 0, .int .u64 0, .int .u64 0, .int .u64 0, .int .u64 0, .slice none 0 0] TN)).alloc (.cells #[.int .i64 x, .int .i64 k] TSp) = w5 at *
      have r1 := HA.out.err.1
      have r2 := spot_cell hs
      have x0 : ((x : Int) != 0) = true := by rw [bne_iff_ne]; have := HX.out; omega
      clear hs hAB H4
      go_wp2_with fail
      go_ret
      exact ⟨rfl, H5.out⟩
  · have H2 := Lib.hid (below_then H1.out hb (Nat.le_refl _))
    have HX := Lib.hid hx
    clear hb H1 hx
    go_wp2_with fail
    have hs := spot_made w2 (.cells #[.int .i64 0, .int .u64 0, .int .u64 0, .int .u64 0, .int .u64 0, .slice none 0 0] TN) #[.int .i64 x, .int .i64 k]
    have hAB := two_below w2 (.cells #[.int .i64 0, .int .u64 0, .int .u64 0, .int .u64 0, .int .u64 0, .slice none 0 0] TN) (.cells #[.int .i64 x, .int .i64 k] TSp)
    have HS := Lib.hid hs; have H3 := Lib.hid (below_then H2.out hAB (Nat.le_refl _))
    clear hs hAB H2
    generalize (w2.alloc (.cells #[.int .i64 0, .int .u64 0, .int .u64 0, .int .u64 0, .int .u64 0, .slice none 0 0] TN)).alloc (.cells #[.int .i64 x, .int .i64 k] TSp) = w3 at *
    generalize w2.heap.size = B at *
    have x0 : ((x : Int) != 0) = true := by rw [bne_iff_ne]; have := HX.out; omega
    refine (tree_or 3 b w3 (by omega)).mono ?_
    rintro e w4 (⟨u, A', c', hu, rfl, hK, hb⟩ | ⟨y, j, hx, hno, rfl, hb⟩)
    · have H4 := Lib.hid (below_then H3.out hb (Nat.le_refl _))
      have hs := (hb.block _ (lt_of_block HS.out)).trans HS.out
      obtain ⟨hA, hAB⟩ := TrAt.made hK
      have H5 := Lib.hid (below_then H4.out hAB (Nat.le_refl _))
      have hs2 := (hAB.block _ (lt_of_block hs)).trans hs
      have HS2 := Lib.hid hs2
      clear hs hs2 hA hAB hK hu hb H4 H3
      go_upto_region 5 with (fail)
      generalize (w4.alloc (.cells #[.int .i64 u.op, .int .u64 (word u.set 0), .int .u64 (word u.set 1), .int .u64 (word u.set 2), .int .u64 (word u.set 3), .slice A' u.kids.length c'] TN)).alloc (.cells #[.int .i64 0, .int .i64 0] TSp) = w5 at *
      have r1 := spot_cell HS2.out
      go_wp2_with fail
      go_ret
      exact ⟨rfl, H5.out⟩
    · have H4 := Lib.hid (below_then H3.out hb (Nat.le_refl _))
      have hs := (hb.block _ (lt_of_block HS.out)).trans HS.out
      have hAB := two_below w4 (.cells #[.int .i64 0, .int .u64 0, .int .u64 0, .int .u64 0, .int .u64 0, .slice none 0 0] TN) (.cells #[.int .i64 y, .int .i64 j] TSp)
      have H5 := Lib.hid (below_then H4.out hAB (Nat.le_refl _))
      have hs2 := (hAB.block _ (lt_of_block hs)).trans hs
      have HS2 := Lib.hid hs2
      clear hs hs2 hAB hx hb H4 H3
      go_upto_region 5 with (fail)
      generalize (w4.alloc (.cells #[.int .i64 0, .int .u64 0, .int .u64 0, .int .u64 0, .int .u64 0, .slice none 0 0] TN)).alloc (.cells #[.int .i64 y, .int .i64 j] TSp) = w5 at *
      have r1 := spot_cell HS2.out
      go_wp2_with fail
      go_ret
      exact ⟨rfl, H5.out⟩
end Go.Proofs.Ytlfhjmdbkifciaa
