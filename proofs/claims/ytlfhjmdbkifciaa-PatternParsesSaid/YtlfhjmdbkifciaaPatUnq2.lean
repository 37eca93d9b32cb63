/- Unquote: the walk. -/
import Derived.Test.YtlfhjmdbkifciaaPatUnq
namespace Go.Proofs.Ytlfhjmdbkifciaa
open Go.RowKit PM

/-- what Unquote tells -/
def unquoteR (n : Nat) (r : Sc) : Value :=
  match r with
  | .ok out pl => if pl.getLastD 0 + 1 < n then .tuple #[.string ⟨#[]⟩, spotV 6 (pl.getLastD 0 + 1)] else .tuple #[.string (bs out), spotV 0 0]
  | .wrong k => .tuple #[.string ⟨#[]⟩, spotV 6 k]
  | .long k => .tuple #[.string ⟨#[]⟩, spotV 3 k]
def unquoteV (s : ByteArray) : Value := unquoteR s.size (scan (-1) s.data.toList 0)

theorem results_tmp_row {fn : Func} {p1 p2 : Tmp} {t2 : TypeId} (h : fn.results = #[.tmp p1, .cell p2 t2]) (tmps : Array Value) (W : World) (b2 : Nat) (X Y : Value)
    (h1 : tmps.getD p1 undef = X) (h2 : tmps.getD p2 undef = .pointer (some ⟨b2, 0, none⟩)) (l2 : (loadVar t2 ⟨b2, 0, none⟩).run Try.prog W = .ok Y W) :
    (results fn tmps).run Try.prog W = .ok (.tuple #[X, Y]) W := by
  have h1' : tmps[p1]?.getD undef = X := by simpa using h1
  have h2' : tmps[p2]?.getD undef = .pointer (some ⟨b2, 0, none⟩) := by simpa using h2
  simp [results, h, h1', h2', asAddr, l2]

theorem spot_set {W : World} {b : Nat} {x y : Nat} (h : W.heap[b]? = some (.cells (spotC x y) TSp (0, 0))) (u v : Value) :
    ((W.setCell ⟨b, 0, none⟩ u).setCell ⟨b, 1, none⟩ v).drew.heap[b]? = some (.cells #[u, v] TSp (0, 0)) := by
  have h1 := heap_setCell_same W b 0 _ _ u h
  have h2 := heap_setCell_same _ b 1 _ _ v h1
  exact h2.trans rfl
theorem below_spot_set (B : Nat) (W : World) (b : Nat) (u v : Value) (h : B ≤ b) : Below B W ((W.setCell ⟨b, 0, none⟩ u).setCell ⟨b, 1, none⟩ v).drew :=
  ((below_setAt B W b 0 u h).trans (below_setAt B _ b 1 v h)).drew

set_option maxRecDepth 100000 in
set_option maxHeartbeats 4000000 in
theorem unquote_any (s : ByteArray) (w : World) (hs : s.size ≤ 100000000) :
    Calls Try.prog 21 #[.string s] w fun e w' => e = .returned (unquoteV s) ∧ Below w.heap.size w w' := by
  have hS : (w.alloc (.cells (spotC 0 0) TSp)).heap[w.heap.size]? = some (.cells (spotC 0 0) TSp (0, 0)) := heap_alloc_new w _
  have HS := Lib.hid hS; have HB := Lib.hid (below_new w (.cells (spotC 0 0) TSp))
  clear hS
  go_enter Try.func21, Try.ntmps21
  go_wp2_with fail
  change Calls _ _ _ (w.alloc (.cells (spotC 0 0) TSp)) _
  generalize w.alloc (.cells (spotC 0 0) TSp) = W0 at *
  refine (quoted_any s (-1) W0 hs).mono ?_
  rintro e w1 ⟨rfl, hb⟩
  have HS1 := Lib.hid ((hb.block _ (lt_of_block HS.out)).trans HS.out)
  have HB1 := Lib.hid (below_then HB.out hb (Nat.le_refl _))
  clear hb HS HB
  obtain ⟨r, hr⟩ : ∃ r, scan (-1) s.data.toList 0 = r := ⟨_, rfl⟩
  have HV : Hid (unquoteV s = unquoteR s.size r) := Lib.hid (by unfold unquoteV; rw [hr])
  rw [show max (-1 : Int) (-1) = -1 from rfl, hr]
  clear hr
  rcases r with ⟨out, pl⟩ | k | k
  · simp only [quotedV, spotV, spotC]
    obtain ⟨m, hm⟩ : ∃ m : Nat, pl.getLastD 0 + 1 = m := ⟨_, rfl⟩
    have hv := HV.out
    simp only [unquoteR, hm] at hv
    rw [hm]
    have HV1 := Lib.hid hv
    clear hm hv HV
    by_cases hlt : m < s.size
    · have hv := HV1.out
      rw [if_pos hlt] at hv
      have HV2 := Lib.hid hv
      have hl2 : (m : Int) < s.size := by omega
      clear hlt hv HV1
      go_wp2_with (refine wpList_store_row rfl TSp (.tmp 3) (.tmp 23) rfl w.heap.size (spotC 6 m) rfl rfl TSp (spotC 0 0) ((heap_alloc_old _ _ (lt_of_block HS1.out)).trans HS1.out) (by kernel_rfl) rfl (by simp [spotC, Value.oneCell']) ?_)
      exact bodyPost_ret (results_tmp_row rfl _ _ w.heap.size _ _ rfl rfl (load_spot _ _ _ (setRow_heap _ _ _ _ _ _ ((heap_alloc_old _ _ (lt_of_block HS1.out)).trans HS1.out)) rfl)) rfl ⟨by rw [HV2.out]; rfl, (HB1.out.alloc HB1.out.size _).trans (below_rowAt _ _ _ _ (Nat.le_refl _))⟩
    · have hv := HV1.out
      rw [if_neg hlt] at hv
      have HV2 := Lib.hid hv
      have hl2 : ¬ ((m : Int) < s.size) := by omega
      clear hlt hv HV1
      have hN : (w1.alloc (.cells #[.int .i64 0, .int .i64 0] 33)).heap[w1.heap.size]? = some (.cells (spotC 0 0) TSp (0, 0)) := heap_alloc_new w1 _
      have hO : (w1.alloc (.cells #[.int .i64 0, .int .i64 0] 33)).heap[w.heap.size]? = some (.cells (spotC 0 0) TSp (0, 0)) := (heap_alloc_old _ _ (lt_of_block HS1.out)).trans HS1.out
      have hB : Below w.heap.size w (w1.alloc (.cells #[.int .i64 0, .int .i64 0] 33)) := HB1.out.alloc HB1.out.size _
      go_wp2_with fail
      generalize w1.alloc (.cells #[.int .i64 0, .int .i64 0] 33) = W2 at *
      obtain ⟨B0, hB0⟩ : ∃ B0, w.heap.size = B0 := ⟨_, rfl⟩
      obtain ⟨B1, hB1⟩ : ∃ B1, w1.heap.size = B1 := ⟨_, rfl⟩
      rw [hB0] at hO hB
      rw [hB1] at hN
      rw [hB0, hB1]
      have HB2 := Lib.hid hB; have HO := Lib.hid hO
      have s0 : W2.cell? ⟨B0, 0, none⟩ = some (.int .i64 0) := by rw [cell_of_row _ _ 0 _ _ _ hO]; rfl
      have s1 : W2.cell? ⟨B0, 1, none⟩ = some (.int .i64 0) := by rw [cell_of_row _ _ 1 _ _ _ hO]; rfl
      have f0 : W2.frozen? ⟨B0, 0, none⟩ = false := frozen_of_row _ _ 0 _ _ hO
      have f1 : W2.frozen? ⟨B0, 1, none⟩ = false := frozen_of_row _ _ 1 _ _ hO
      have n0 : W2.cell? ⟨B1, 0, none⟩ = some (.int .i64 0) := by rw [cell_of_row _ _ 0 _ _ _ hN]; rfl
      have n1 : W2.cell? ⟨B1, 1, none⟩ = some (.int .i64 0) := by rw [cell_of_row _ _ 1 _ _ _ hN]; rfl
      clear hN hO hB
      go_region
      go_wp2_with fail
      exact bodyPost_ret (results_tmp_row rfl _ _ B0 _ _ rfl rfl (load_spot _ _ _ (spot_set HO.out _ _) rfl)) rfl ⟨by rw [HV2.out]; rfl, by rw [hB0]; exact HB2.out.trans (below_spot_set _ _ _ _ _ (Nat.le_refl _))⟩
  · simp only [quotedV, spotV, spotC]
    have hv := HV.out
    simp only [unquoteR] at hv
    have HV2 := Lib.hid hv
    clear hv HV
    have hN : (w1.alloc (.cells #[.int .i64 6, .int .i64 k] 33)).heap[w1.heap.size]? = some (.cells (spotC 6 k) TSp (0, 0)) := heap_alloc_new w1 _
    have hO : (w1.alloc (.cells #[.int .i64 6, .int .i64 k] 33)).heap[w.heap.size]? = some (.cells (spotC 0 0) TSp (0, 0)) := (heap_alloc_old _ _ (lt_of_block HS1.out)).trans HS1.out
    have hB : Below w.heap.size w (w1.alloc (.cells #[.int .i64 6, .int .i64 k] 33)) := HB1.out.alloc HB1.out.size _
    go_wp2_with fail
    generalize w1.alloc (.cells #[.int .i64 6, .int .i64 k] 33) = W2 at *
    obtain ⟨B0, hB0⟩ : ∃ B0, w.heap.size = B0 := ⟨_, rfl⟩
    obtain ⟨B1, hB1⟩ : ∃ B1, w1.heap.size = B1 := ⟨_, rfl⟩
    rw [hB0] at hO hB
    rw [hB1] at hN
    rw [hB0, hB1]
    have HB2 := Lib.hid hB; have HO := Lib.hid hO
    have s0 : W2.cell? ⟨B0, 0, none⟩ = some (.int .i64 0) := by rw [cell_of_row _ _ 0 _ _ _ hO]; rfl
    have s1 : W2.cell? ⟨B0, 1, none⟩ = some (.int .i64 0) := by rw [cell_of_row _ _ 1 _ _ _ hO]; rfl
    have f0 : W2.frozen? ⟨B0, 0, none⟩ = false := frozen_of_row _ _ 0 _ _ hO
    have f1 : W2.frozen? ⟨B0, 1, none⟩ = false := frozen_of_row _ _ 1 _ _ hO
    have n0 : W2.cell? ⟨B1, 0, none⟩ = some (.int .i64 6) := by rw [cell_of_row _ _ 0 _ _ _ hN]; rfl
    have n1 : W2.cell? ⟨B1, 1, none⟩ = some (.int .i64 k) := by rw [cell_of_row _ _ 1 _ _ _ hN]; rfl
    clear hN hO hB
    go_region
    go_wp2_with fail
    exact bodyPost_ret (results_tmp_row rfl _ _ B0 _ _ rfl rfl (load_spot _ _ _ (spot_set HO.out _ _) rfl)) rfl ⟨by rw [HV2.out]; rfl, by rw [hB0]; exact HB2.out.trans (below_spot_set _ _ _ _ _ (Nat.le_refl _))⟩
  · simp only [quotedV, spotV, spotC]
    have hv := HV.out
    simp only [unquoteR] at hv
    have HV2 := Lib.hid hv
    clear hv HV
    have hN : (w1.alloc (.cells #[.int .i64 3, .int .i64 k] 33)).heap[w1.heap.size]? = some (.cells (spotC 3 k) TSp (0, 0)) := heap_alloc_new w1 _
    have hO : (w1.alloc (.cells #[.int .i64 3, .int .i64 k] 33)).heap[w.heap.size]? = some (.cells (spotC 0 0) TSp (0, 0)) := (heap_alloc_old _ _ (lt_of_block HS1.out)).trans HS1.out
    have hB : Below w.heap.size w (w1.alloc (.cells #[.int .i64 3, .int .i64 k] 33)) := HB1.out.alloc HB1.out.size _
    go_wp2_with fail
    generalize w1.alloc (.cells #[.int .i64 3, .int .i64 k] 33) = W2 at *
    obtain ⟨B0, hB0⟩ : ∃ B0, w.heap.size = B0 := ⟨_, rfl⟩
    obtain ⟨B1, hB1⟩ : ∃ B1, w1.heap.size = B1 := ⟨_, rfl⟩
    rw [hB0] at hO hB
    rw [hB1] at hN
    rw [hB0, hB1]
    have HB2 := Lib.hid hB; have HO := Lib.hid hO
    have s0 : W2.cell? ⟨B0, 0, none⟩ = some (.int .i64 0) := by rw [cell_of_row _ _ 0 _ _ _ hO]; rfl
    have s1 : W2.cell? ⟨B0, 1, none⟩ = some (.int .i64 0) := by rw [cell_of_row _ _ 1 _ _ _ hO]; rfl
    have f0 : W2.frozen? ⟨B0, 0, none⟩ = false := frozen_of_row _ _ 0 _ _ hO
    have f1 : W2.frozen? ⟨B0, 1, none⟩ = false := frozen_of_row _ _ 1 _ _ hO
    have n0 : W2.cell? ⟨B1, 0, none⟩ = some (.int .i64 3) := by rw [cell_of_row _ _ 0 _ _ _ hN]; rfl
    have n1 : W2.cell? ⟨B1, 1, none⟩ = some (.int .i64 k) := by rw [cell_of_row _ _ 1 _ _ _ hN]; rfl
    clear hN hO hB
    go_region
    go_wp2_with fail
    exact bodyPost_ret (results_tmp_row rfl _ _ B0 _ _ rfl rfl (load_spot _ _ _ (spot_set HO.out _ _) rfl)) rfl ⟨by rw [HV2.out]; rfl, by rw [hB0]; exact HB2.out.trans (below_spot_set _ _ _ _ _ (Nat.le_refl _))⟩
end Go.Proofs.Ytlfhjmdbkifciaa
