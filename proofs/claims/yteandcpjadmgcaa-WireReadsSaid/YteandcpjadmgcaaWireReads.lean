/- The law WireReads. -/
import Derived.Test.YteandcpjadmgcaaWireAlike5
namespace Go.Proofs.Yteandcpjadmgcaa
open Go.RowKit

theorem alike_any (w0 : World) (B gr gq : Nat) (hne : gr ≠ gq) (kind count most : Int) (s : ByteArray) (st : WM.St) (w : World) (hB : Both w0 B gr gq s st w) (hs : s.size ≤ 1000000)
    (hBr : B ≤ gr) (hBq : B ≤ gq) (hB0 : B ≤ w0.heap.size)
    (hc : -9223372036854775808 ≤ count ∧ count ≤ 9223372036854775807) (hm : -9223372036854775808 ≤ most ∧ most ≤ 9223372036854775807) :
    Calls Try.prog 25 #[.pointer (some ⟨gr, 0, none⟩), .pointer (some ⟨gq, 0, none⟩), .agg #[.int .i64 kind, .int .i64 count, .int .i64 most]] w fun e w' =>
      e = .returned (.bool true) ∧ ∃ st', Both w0 B gr gq s st' w' := by
  by_cases h : kind = 0 ∨ kind = 1 ∨ kind = 2 ∨ kind = 3 ∨ kind = 4
  · exact alike_low w0 B gr gq hne kind count most s st w hB hs hBr hBq hB0 hc hm h
  · exact alike_high w0 B gr gq hne kind count most s st w hB hs hBr hBq hB0 hc hm (by omega) (by omega) (by omega) (by omega) (by omega)

/-- the slice of asks: kind, count, most -/
def QArg (w : World) (B : Nat) (A : Option Addr) (n : Nat) : Prop := ∀ k, k < n → ∃ (ad : Addr) (x c m : Int), A = some ad ∧ ad.block < B ∧
  w.cell? (ad.add (k * 3)) = some (.int .i64 x) ∧ w.cell? ⟨(ad.add (k * 3)).block, (ad.add (k * 3)).off + 1, none⟩ = some (.int .i64 c) ∧ w.cell? ⟨(ad.add (k * 3)).block, (ad.add (k * 3)).off + 2, none⟩ = some (.int .i64 m) ∧
  (-9223372036854775808 ≤ c ∧ c ≤ 9223372036854775807) ∧ (-9223372036854775808 ≤ m ∧ m ≤ 9223372036854775807)

theorem QArg.below {w w' : World} {B : Nat} {A : Option Addr} {n : Nat} (h : QArg w B A n) (hb : Below B w w') : QArg w' B A n := fun k hk => by
  obtain ⟨ad, x, c, m, e, hl, h1, h2, h3, h4⟩ := h k hk
  exact ⟨ad, x, c, m, e, hl, (hb.cell (by rw [block_add]; exact hl)).trans h1, (hb.cell (by show (ad.add (k * 3)).block < B; rw [block_add]; exact hl)).trans h2, (hb.cell (by show (ad.add (k * 3)).block < B; rw [block_add]; exact hl)).trans h3, h4⟩

theorem RQ.fault_cells {w : World} {g : Nat} {s : ByteArray} {st : WM.St} (h : RQ w g s st) : w.cell? ⟨g, 2, none⟩ = some (.int .i64 (faultOf st).1) ∧ w.cell? ⟨g, 3, none⟩ = some (.int .i64 (faultOf st).2) := by
  cases st with
  | ok a => exact ⟨h.2.cells.2.2.1, h.2.cells.2.2.2⟩
  | bad e p => obtain ⟨_, _, _, a, _, h⟩ := h; exact ⟨h.cells.2.2.1, h.cells.2.2.2⟩
theorem Both.below {w0 w w' : World} {B gr gq : Nat} {s : ByteArray} {st : WM.St} (h : Both w0 B gr gq s st w) (hb : Below w.heap.size w w') (hB : B ≤ w0.heap.size) : Both w0 B gr gq s st w' :=
  ⟨h.1.below hb, h.2.1.below hb, h.2.2.trans (hb.mono (Nat.le_trans hB h.2.2.size))⟩
theorem Both.drew {w0 w : World} {B gr gq : Nat} {s : ByteArray} {st : WM.St} (h : Both w0 B gr gq s st w) : Both w0 B gr gq s st w.drew :=
  ⟨h.1.drew, h.2.1.drew, h.2.2.drew⟩

set_option maxRecDepth 100000 in
set_option maxHeartbeats 16000000 in
theorem wireReads_walk (s : ByteArray) (A : Option Addr) (cap n : Nat) (w : World) (h0 : s.size ≤ 9223372036854775807) (ha : QArg w w.heap.size A n) (hn : n ≤ 9223372036854775807) :
    Calls Try.prog 5 #[.string s, .slice A n cap] w fun e w' => e = .returned (.bool true) ∧ Below w.heap.size w w' := by
  go_enter Try.func5, Try.ntmps5
  go_wp2_with fail
  refine (works_true w).mono ?_
  rintro e w1 ⟨rfl, hb1⟩
  by_cases hs1 : 65536 < s.size
  · have hd : decide (65536 < (s.size : Int)) = true := by simp; omega
    clear ha
    go_wp2_with fail
    go_ret
    exact ⟨rfl, hb1⟩
  have hd1 : decide (65536 < (s.size : Int)) = false := by simp; omega
  by_cases hn1 : 200 < n
  · have hd : decide (200 < (n : Int)) = true := by simp; omega
    clear ha
    go_wp2_with fail
    go_ret
    exact ⟨rfl, hb1⟩
  have hd2 : decide (200 < (n : Int)) = false := by simp; omega
  have HA := Lib.hid ha; clear ha
  go_wp2_with fail
  refine (new_any s w1 w1.heap.size (Nat.le_refl _)).mono ?_
  rintro e w2 ⟨gr, rfl, hgr, hr, hb2⟩
  have hrl := hr.lt
  have hwr : w.heap.size ≤ gr := Nat.le_trans hb1.size hgr
  have hc2 := below_then hb1 hb2 (Nat.le_refl _)
  have hq : RQ (w2.alloc (.cells #[.string s, .int .i64 0, .int .i64 0, .int .i64 0] TQ)) w2.heap.size s (.ok 0) := ⟨by omega, heap_alloc_new w2 _⟩
  have hr2 := hr.below (below_new w2 (.cells #[.string s, .int .i64 0, .int .i64 0, .int .i64 0] TQ))
  have hb3 := below_then hc2 (below_new w2 (.cells #[.string s, .int .i64 0, .int .i64 0, .int .i64 0] TQ)) (Nat.le_refl _)
  have HBoth : Hid (Both w w.heap.size gr w2.heap.size s (.ok 0) (w2.alloc (.cells #[.string s, .int .i64 0, .int .i64 0, .int .i64 0] TQ))) := ⟨hr2, hq, hb3⟩
  have hne : gr ≠ w2.heap.size := by omega
  have hwq : w.heap.size ≤ w2.heap.size := hc2.size
  clear hq hr2 hb3 hr hb1 hb2 hc2
  go_wp2_with fail
  generalize w2.alloc (.cells #[.string s, .int .i64 0, .int .i64 0, .int .i64 0] TQ) = W at HBoth ⊢
  generalize w2.heap.size = gq at HBoth hne hwq hrl ⊢
  go_loopw [8, 28] (fun _ i wr => ∃ (k : Nat) (st : WM.St), k ≤ n ∧ i = .int .i64 k ∧ Hid (Both w w.heap.size gr gq s st wr)) (fun _ i _ => n - (intOf i).toNat)
  case atStart => exact ⟨0, _, by omega, rfl, HBoth⟩
  case round =>
    obtain ⟨k, st, hk, rfl, HB⟩ := hrel
    clear HBoth hd1 hd2
    by_cases hlt : k < n
    · obtain ⟨ad, x, c, m, rfl, hadb, a0, a1, a2, hcb, hmb⟩ := (HA.out.below HB.out.2.2) k hlt
      have hlt2 : (k : Int) < n := by omega
      clear HA hadb
      go_wp2_with fail
      have HBd : Hid (Both w w.heap.size gr gq s st (wr.alloc (.cells #[.int .i64 x, .int .i64 c, .int .i64 m] 54)).drew) := (HB.out.below (below_new wr _) (Nat.le_refl _)).drew
      have hc0 : (wr.alloc (.cells #[.int .i64 x, .int .i64 c, .int .i64 m] 54)).drew.cell? ⟨wr.heap.size, 0, none⟩ = some (.int .i64 x) := cell_of_row _ _ 0 _ _ _ (heap_alloc_new wr _)
      have hc1 : (wr.alloc (.cells #[.int .i64 x, .int .i64 c, .int .i64 m] 54)).drew.cell? ⟨wr.heap.size, 1, none⟩ = some (.int .i64 c) := cell_of_row _ _ 1 _ _ _ (heap_alloc_new wr _)
      have hc2 : (wr.alloc (.cells #[.int .i64 x, .int .i64 c, .int .i64 m] 54)).drew.cell? ⟨wr.heap.size, 2, none⟩ = some (.int .i64 m) := cell_of_row _ _ 2 _ _ _ (heap_alloc_new wr _)
      clear a0 a1 a2 HB
      generalize wr.alloc (.cells #[.int .i64 x, .int .i64 c, .int .i64 m] 54) = W1 at HBd hc0 hc1 hc2 ⊢
      generalize wr.heap.size = p at hc0 hc1 hc2 ⊢
      have hs3 : s.size ≤ 1000000 := by omega
      have hs4 : s.size ≤ 4611686018427387904 := by omega
      refine wp_region_any (by kernel_rfl) ?_
      change wpAny _ _ _ _ _ _ _ W1.drew
      refine wpAny_take (i := 0) (v := ?_) (by simp only [List.getElem?_toArray, List.getElem?_cons_succ, List.getElem?_cons_zero]; rfl) (by kernel_rfl) (by kernel_rfl) (by kernel_rfl) (by exact fun _ _ _ h => h) (Or.inl ⟨by rfl, ?_⟩) ?_
      rotate_left
      · (intro w; go_simp)
        try with_reducible rfl
      try simp only [Act.put, List.setIfInBounds_toArray, List.set_cons_zero, List.set_cons_succ]
      refine wpAny_take (i := 1) (v := ?_) (by simp only [List.getElem?_toArray, List.getElem?_cons_succ, List.getElem?_cons_zero]; rfl) (by kernel_rfl) (by kernel_rfl) (by kernel_rfl) (by exact fun _ _ _ h => h) (Or.inl ⟨by rfl, ?_⟩) ?_
      rotate_left
      · (intro w; go_simp)
        try with_reducible rfl
      try simp only [Act.put, List.setIfInBounds_toArray, List.set_cons_zero, List.set_cons_succ]
      refine wpAny_ready (rs := [2]) (by kernel_rfl) (by simp) ?_
      refine AllReady.cons (by simp only [List.getElem?_toArray, List.getElem?_cons_succ, List.getElem?_cons_zero]; rfl) (fun K hK => ?_) AllReady.nil
      go_simp
      refine hK _ _ ?_
      clear hK K
      try simp only [Act.put, List.setIfInBounds_toArray, List.set_cons_zero, List.set_cons_succ]
      refine wpAny_ready (rs := [3]) (by kernel_rfl) (by simp) ?_
      refine AllReady.cons (by simp only [List.getElem?_toArray, List.getElem?_cons_succ, List.getElem?_cons_zero]; rfl) (fun K hK => ?_) AllReady.nil
      go_simp
      refine (alike_any w w.heap.size gr gq hne x c m s st _ HBd.out hs3 hwr hwq (Nat.le_refl _) hcb hmb).mono ?_
      rintro e w2 ⟨rfl, st2, hB2⟩
      have HB2 := Lib.hid hB2
      obtain ⟨d2, d3⟩ := hB2.2.1.fault_cells
      have HF := Lib.hid (rdFault_any gr s st2 w2 hB2.1)
      clear hB2
      simp only []
      refine hK _ _ ?_
      clear hK K
      try simp only [Act.put, List.setIfInBounds_toArray, List.set_cons_zero, List.set_cons_succ]
      refine wpAny_of_held (S := fun w' => w'.cell? ⟨gq, 2, none⟩ = some (.int .i64 (faultOf st2).1) ∧ w'.cell? ⟨gq, 3, none⟩ = some (.int .i64 (faultOf st2).2)) _ _ _ _ ?_
      have hHeld : w2.cell? ⟨gq, 2, none⟩ = some (.int .i64 (faultOf st2).1) ∧ w2.cell? ⟨gq, 3, none⟩ = some (.int .i64 (faultOf st2).2) := ⟨d2, d3⟩
      refine wpAnyH_take (i := 4) (v := ?_) (by simp only [List.getElem?_toArray, List.getElem?_cons_succ, List.getElem?_cons_zero]; rfl) (by kernel_rfl) (by kernel_rfl) (by kernel_rfl) (by exact fun _ _ _ h => h) (Or.inl ⟨by rfl, ?_⟩) (by assumption) ?_
      rotate_left
      · (intro w hSw; (try dsimp only at hSw); obtain ⟨hSa, hSb⟩ := hSw; go_simp)
        try with_reducible rfl
      try simp only [Act.put, List.setIfInBounds_toArray, List.set_cons_zero, List.set_cons_succ]
      refine wpAnyH_take (i := 5) (v := ?_) (by simp only [List.getElem?_toArray, List.getElem?_cons_succ, List.getElem?_cons_zero]; rfl) (by kernel_rfl) (by kernel_rfl) (by kernel_rfl) (by exact fun _ _ _ h => h) (Or.inl ⟨by rfl, ?_⟩) (by assumption) ?_
      rotate_left
      · (intro w hSw; (try dsimp only at hSw); obtain ⟨hSa, hSb⟩ := hSw; go_simp)
        try with_reducible rfl
      try simp only [Act.put, List.setIfInBounds_toArray, List.set_cons_zero, List.set_cons_succ]
      refine wpAnyH_take (i := 6) (v := ?_) (by simp only [List.getElem?_toArray, List.getElem?_cons_succ, List.getElem?_cons_zero]; rfl) (by kernel_rfl) (by kernel_rfl) (by kernel_rfl) (by exact fun _ _ _ h => h) (Or.inl ⟨by rfl, ?_⟩) (by assumption) ?_
      rotate_left
      · (intro w hSw; (try dsimp only at hSw); obtain ⟨hSa, hSb⟩ := hSw; go_simp)
        try with_reducible rfl
      try simp only [Act.put, List.setIfInBounds_toArray, List.set_cons_zero, List.set_cons_succ]
      refine wpAnyH_take (i := 8) (v := ?_) (by simp only [List.getElem?_toArray, List.getElem?_cons_succ, List.getElem?_cons_zero]; rfl) (by kernel_rfl) (by kernel_rfl) (by kernel_rfl) (by exact fun _ _ _ h => h) (Or.inl ⟨by rfl, ?_⟩) (by assumption) ?_
      rotate_left
      · (intro w hSw; (try dsimp only at hSw); obtain ⟨hSa, hSb⟩ := hSw; go_simp)
        try with_reducible rfl
      try simp only [Act.put, List.setIfInBounds_toArray, List.set_cons_zero, List.set_cons_succ]
      refine wpAnyH_take (i := 9) (v := ?_) (by simp only [List.getElem?_toArray, List.getElem?_cons_succ, List.getElem?_cons_zero]; rfl) (by kernel_rfl) (by kernel_rfl) (by kernel_rfl) (by exact fun _ _ _ h => h) (Or.inl ⟨by rfl, ?_⟩) (by assumption) ?_
      rotate_left
      · (intro w hSw; (try dsimp only at hSw); obtain ⟨hSa, hSb⟩ := hSw; go_simp)
        try with_reducible rfl
      try simp only [Act.put, List.setIfInBounds_toArray, List.set_cons_zero, List.set_cons_succ]
      refine wpAnyH_take (i := 10) (v := ?_) (by simp only [List.getElem?_toArray, List.getElem?_cons_succ, List.getElem?_cons_zero]; rfl) (by kernel_rfl) (by kernel_rfl) (by kernel_rfl) (by exact fun _ _ _ h => h) (Or.inl ⟨by rfl, ?_⟩) (by assumption) ?_
      rotate_left
      · (intro w hSw; (try dsimp only at hSw); obtain ⟨hSa, hSb⟩ := hSw; go_simp)
        try with_reducible rfl
      try simp only [Act.put, List.setIfInBounds_toArray, List.set_cons_zero, List.set_cons_succ]
      refine wpAnyH_take (i := 11) (v := ?_) (by simp only [List.getElem?_toArray, List.getElem?_cons_succ, List.getElem?_cons_zero]; rfl) (by kernel_rfl) (by kernel_rfl) (by kernel_rfl) (by exact fun _ _ _ h => h) (Or.inl ⟨by rfl, ?_⟩) (by assumption) ?_
      rotate_left
      · (intro w hSw; (try dsimp only at hSw); obtain ⟨hSa, hSb⟩ := hSw; go_simp)
        try with_reducible rfl
      try simp only [Act.put, List.setIfInBounds_toArray, List.set_cons_zero, List.set_cons_succ]
      refine wpAnyH_take (i := 12) (v := ?_) (by simp only [List.getElem?_toArray, List.getElem?_cons_succ, List.getElem?_cons_zero]; rfl) (by kernel_rfl) (by kernel_rfl) (by kernel_rfl) (by exact fun _ _ _ h => h) (Or.inl ⟨by rfl, ?_⟩) (by assumption) ?_
      rotate_left
      · (intro w hSw; (try dsimp only at hSw); obtain ⟨hSa, hSb⟩ := hSw; go_simp)
        try with_reducible rfl
      try simp only [Act.put, List.setIfInBounds_toArray, List.set_cons_zero, List.set_cons_succ]
      refine wpAnyH_take (i := 13) (v := ?_) (by simp only [List.getElem?_toArray, List.getElem?_cons_succ, List.getElem?_cons_zero]; rfl) (by kernel_rfl) (by kernel_rfl) (by kernel_rfl) (by exact fun _ _ _ h => h) (Or.inl ⟨by rfl, ?_⟩) (by assumption) ?_
      rotate_left
      · (intro w hSw; (try dsimp only at hSw); obtain ⟨hSa, hSb⟩ := hSw; go_simp)
        try with_reducible rfl
      try simp only [Act.put, List.setIfInBounds_toArray, List.set_cons_zero, List.set_cons_succ]
      refine wpAnyH_take (i := 14) (v := ?_) (by simp only [List.getElem?_toArray, List.getElem?_cons_succ, List.getElem?_cons_zero]; rfl) (by kernel_rfl) (by kernel_rfl) (by kernel_rfl) (by exact fun _ _ _ h => h) (Or.inl ⟨by rfl, ?_⟩) (by assumption) ?_
      rotate_left
      · (intro w hSw; (try dsimp only at hSw); obtain ⟨hSa, hSb⟩ := hSw; go_simp)
        try with_reducible rfl
      try simp only [Act.put, List.setIfInBounds_toArray, List.set_cons_zero, List.set_cons_succ]
      refine wpAnyH_take (i := 15) (v := ?_) (by simp only [List.getElem?_toArray, List.getElem?_cons_succ, List.getElem?_cons_zero]; rfl) (by kernel_rfl) (by kernel_rfl) (by kernel_rfl) (by exact fun _ _ _ h => h) (Or.inl ⟨by rfl, ?_⟩) (by assumption) ?_
      rotate_left
      · (intro w hSw; (try dsimp only at hSw); obtain ⟨hSa, hSb⟩ := hSw; go_simp)
        try with_reducible rfl
      try simp only [Act.put, List.setIfInBounds_toArray, List.set_cons_zero, List.set_cons_succ]
      refine wpAnyH_take (i := 16) (v := ?_) (by simp only [List.getElem?_toArray, List.getElem?_cons_succ, List.getElem?_cons_zero]; rfl) (by kernel_rfl) (by kernel_rfl) (by kernel_rfl) (by exact fun _ _ _ h => h) (Or.inl ⟨by rfl, ?_⟩) (by assumption) ?_
      rotate_left
      · (intro w hSw; (try dsimp only at hSw); obtain ⟨hSa, hSb⟩ := hSw; go_simp)
        try with_reducible rfl
      try simp only [Act.put, List.setIfInBounds_toArray, List.set_cons_zero, List.set_cons_succ]
      refine wpAnyH_ready (rs := [7]) (by kernel_rfl) (by simp) ?_
      refine AllReadyH.cons (by simp only [List.getElem?_toArray, List.getElem?_cons_succ, List.getElem?_cons_zero]; rfl) (fun K hK => ?_) AllReadyH.nil
      go_simp
      refine HF.out.mono ?_
      rintro e w3 ⟨rfl, hb3⟩
      have f2 := cell_below d2 hb3
      have f3 := cell_below d3 hb3
      have HB3 := Lib.hid (HB2.out.below hb3 (Nat.le_refl _))
      clear HF hb3
      simp only []
      refine hK.out _ _ ⟨f2, f3⟩ (fun hHeld => ?_)
      clear hK K
      try simp only [Act.put, List.setIfInBounds_toArray, List.set_cons_zero, List.set_cons_succ]
      refine wpAnyH_take (i := 17) (v := ?_) (by simp only [List.getElem?_toArray, List.getElem?_cons_succ, List.getElem?_cons_zero]; rfl) (by kernel_rfl) (by kernel_rfl) (by kernel_rfl) (by exact fun _ _ _ h => h) (Or.inl ⟨by rfl, ?_⟩) (by assumption) ?_
      rotate_left
      · (intro w hSw; (try dsimp only at hSw); obtain ⟨hSa, hSb⟩ := hSw; go_simp)
        try with_reducible rfl
      try simp only [Act.put, List.setIfInBounds_toArray, List.set_cons_zero, List.set_cons_succ]
      refine wpAnyH_take (i := 18) (v := ?_) (by simp only [List.getElem?_toArray, List.getElem?_cons_succ, List.getElem?_cons_zero]; rfl) (by kernel_rfl) (by kernel_rfl) (by kernel_rfl) (by exact fun _ _ _ h => h) (Or.inl ⟨by rfl, ?_⟩) (by assumption) ?_
      rotate_left
      · (intro w hSw; (try dsimp only at hSw); obtain ⟨hSa, hSb⟩ := hSw; go_simp)
        try with_reducible rfl
      try simp only [Act.put, List.setIfInBounds_toArray, List.set_cons_zero, List.set_cons_succ]
      refine wpAnyH_take (i := 19) (v := ?_) (by simp only [List.getElem?_toArray, List.getElem?_cons_succ, List.getElem?_cons_zero]; rfl) (by kernel_rfl) (by kernel_rfl) (by kernel_rfl) (by exact fun _ _ _ h => h) (Or.inl ⟨by rfl, ?_⟩) (by assumption) ?_
      rotate_left
      · (intro w hSw; (try dsimp only at hSw); obtain ⟨hSa, hSb⟩ := hSw; go_simp)
        try with_reducible rfl
      try simp only [Act.put, List.setIfInBounds_toArray, List.set_cons_zero, List.set_cons_succ]
      refine wpAnyH_take (i := 20) (v := ?_) (by simp only [List.getElem?_toArray, List.getElem?_cons_succ, List.getElem?_cons_zero]; rfl) (by kernel_rfl) (by kernel_rfl) (by kernel_rfl) (by exact fun _ _ _ h => h) (Or.inl ⟨by rfl, ?_⟩) (by assumption) ?_
      rotate_left
      · (intro w hSw; (try dsimp only at hSw); obtain ⟨hSa, hSb⟩ := hSw; go_simp)
        try with_reducible rfl
      try simp only [Act.put, List.setIfInBounds_toArray, List.set_cons_zero, List.set_cons_succ]
      refine wpAnyH_take (i := 22) (v := ?_) (by simp only [List.getElem?_toArray, List.getElem?_cons_succ, List.getElem?_cons_zero]; rfl) (by kernel_rfl) (by kernel_rfl) (by kernel_rfl) (by exact fun _ _ _ h => h) (Or.inl ⟨by rfl, ?_⟩) (by assumption) ?_
      rotate_left
      · (intro w hSw; (try dsimp only at hSw); obtain ⟨hSa, hSb⟩ := hSw; go_simp)
        try with_reducible rfl
      try simp only [Act.put, List.setIfInBounds_toArray, List.set_cons_zero, List.set_cons_succ]
      refine wpAnyH_ready (rs := [21]) (by kernel_rfl) (by simp) ?_
      refine AllReadyH.cons (by simp only [List.getElem?_toArray, List.getElem?_cons_succ, List.getElem?_cons_zero]; rfl) (fun K hK => ?_) AllReadyH.nil
      go_simp
      refine (rdRest_any gr s st2 _ HB3.out.1 hs4).mono ?_
      rintro e w4 ⟨rfl, hb4⟩
      have f4 := cell_below f2 hb4
      have f5 := cell_below f3 hb4
      have HB4 := Lib.hid (HB3.out.below hb4 (Nat.le_refl _))
      clear hb4
      simp only []
      refine hK.out _ _ ⟨f4, f5⟩ (fun hHeld => ?_)
      clear hK K
      try simp only [Act.put, List.setIfInBounds_toArray, List.set_cons_zero, List.set_cons_succ]
      refine wpAnyH_ready (rs := [23]) (by kernel_rfl) (by simp) ?_
      refine AllReadyH.cons (by simp only [List.getElem?_toArray, List.getElem?_cons_succ, List.getElem?_cons_zero]; rfl) (fun K hK => ?_) AllReadyH.nil
      go_simp
      refine (refRdRest_any gq s st2 _ HB4.out.2.1).mono ?_
      rintro e w5 ⟨rfl, hb5⟩
      have f6 := cell_below f4 hb5
      have f7 := cell_below f5 hb5
      have HB5 := Lib.hid (HB4.out.below hb5 (Nat.le_refl _))
      clear hb5
      simp only []
      refine hK.out _ _ ⟨f6, f7⟩ (fun hHeld => ?_)
      clear hK K
      try simp only [Act.put, List.setIfInBounds_toArray, List.set_cons_zero, List.set_cons_succ]
      refine wpAnyH_take (i := 24) (v := ?_) (by simp only [List.getElem?_toArray, List.getElem?_cons_succ, List.getElem?_cons_zero]; rfl) (by kernel_rfl) (by kernel_rfl) (by kernel_rfl) (by exact fun _ _ _ h => h) (Or.inl ⟨by rfl, ?_⟩) (by assumption) ?_
      rotate_left
      · (intro w hSw; (try dsimp only at hSw); obtain ⟨hSa, hSb⟩ := hSw; go_simp)
        try with_reducible rfl
      try simp only [Act.put, List.setIfInBounds_toArray, List.set_cons_zero, List.set_cons_succ]
      refine wpAnyH_take (i := 25) (v := ?_) (by simp only [List.getElem?_toArray, List.getElem?_cons_succ, List.getElem?_cons_zero]; rfl) (by kernel_rfl) (by kernel_rfl) (by kernel_rfl) (by exact fun _ _ _ h => h) (Or.inl ⟨by rfl, ?_⟩) (by assumption) ?_
      rotate_left
      · (intro w hSw; (try dsimp only at hSw); obtain ⟨hSa, hSb⟩ := hSw; go_simp)
        try with_reducible rfl
      try simp only [Act.put, List.setIfInBounds_toArray, List.set_cons_zero, List.set_cons_succ]
      refine wpAnyH_done (by kernel_rfl) ?_ _
      go_wp2_with fail
      exact ⟨⟨k + 1, st2, by omega, by go_num, HB5⟩, by simp [intOf]; omega⟩
    · have hge : ¬ ((k : Int) < n) := by omega
      have HE := Lib.hid (refRdEnd_any gq s st wr HB.out.2.1)
      go_wp2_with fail
      refine HE.out.mono ?_
      rintro e w5 ⟨rfl, hb5⟩
      have HE2 := Lib.hid (rdEnd_any gr s st w5 (HB.out.1.below hb5) (by omega))
      have HBB := Lib.hid (HB.out.2.2.trans (hb5.mono HB.out.2.2.size))
      clear hb5 HE
      go_wp2_with fail
      refine HE2.out.mono ?_
      rintro e w6 ⟨rfl, hb6⟩
      go_wp2_with fail
      go_ret
      exact ⟨rfl, below_then HBB.out hb6 (Nat.le_refl _)⟩

end Go.Proofs.Yteandcpjadmgcaa
