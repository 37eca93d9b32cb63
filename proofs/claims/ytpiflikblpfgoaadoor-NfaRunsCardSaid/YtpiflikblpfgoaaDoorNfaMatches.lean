/- NfaMatches: a pattern fits a text just if its tree does. -/
import Derived.Test.YtpiflikblpfgoaaDoorNfaRefEnds
import Derived.Test.YtpiflikblpfgoaaDoorNfaNil
import Derived.Test.YtpiflikblpfgoaaDoorPatRefTree
namespace Go.Proofs.YtpiflikblpfgoaaDoor
open Go.RowKit PM

/-- the document's Tree: a tree, or an error -/
theorem rtree_or (kind : Int) (s : ByteArray) (w : World) (hs : s.size ≤ 9223372036854775807) :
    Calls Tryd.prog 13 #[.agg #[.int .i64 kind, .string s]] w fun e w' =>
      (∃ t A c, tree kind s.data.toList = .ok t ∧ e = .returned (.tuple #[.agg #[.int .i64 t.op, .int .u64 (word t.set 0), .int .u64 (word t.set 1), .int .u64 (word t.set 2), .int .u64 (word t.set 3), .slice A t.kids.length c], .agg #[.int .i64 0, .int .i64 0]]) ∧
        IsT w' (fun b => w.heap.size ≤ b) (.slice A t.kids.length c) t ∧ Below w.heap.size w w') ∨
      (∃ x k : Nat, (x = 2 ∨ x = 3 ∨ x = 6) ∧ (∀ t, tree kind s.data.toList ≠ .ok t) ∧ e = .returned (.tuple #[.agg #[.int .i64 0, .int .u64 0, .int .u64 0, .int .u64 0, .int .u64 0, .slice none 0 0], .agg #[.int .i64 x, .int .i64 k]]) ∧ Below w.heap.size w w') := by
  refine (rtree_any kind s w hs).mono fun e w' h => ?_
  cases hr : tree kind s.data.toList with
  | ok t =>
    rw [hr] at h
    obtain ⟨K, rfl, hK, hb⟩ := h
    obtain ⟨A, c, rfl⟩ := hK.slice
    exact .inl ⟨t, A, c, rfl, rfl, hK, hb⟩
  | arg => rw [hr] at h; obtain ⟨rfl, hb⟩ := h; exact .inr ⟨2, 0, .inl rfl, (by intro t e; cases e), rfl, hb⟩
  | long => rw [hr] at h; obtain ⟨rfl, hb⟩ := h; exact .inr ⟨3, 64, .inr (.inl rfl), (by intro t e; cases e), rfl, hb⟩
  | bad k => rw [hr] at h; obtain ⟨rfl, hb⟩ := h; exact .inr ⟨6, k, .inr (.inr rfl), (by intro t e; cases e), rfl, hb⟩

set_option maxRecDepth 100000 in
set_option maxHeartbeats 8000000 in
theorem nfaMatches_walk (kind : Int) (a s : ByteArray) (w : World) (ha : a.size ≤ 9223372036854775807) (_hs : s.size ≤ 9223372036854775807) (hT : Tab w) :
    Calls Tryd.prog 3 #[.agg #[.int .i64 kind, .string a], .string s] w fun e w' => e = .returned (.bool true) ∧ Below w.heap.size w w' := by
  have HT := Lib.hid hT
  clear hT
  go_enter Tryd.func3, Tryd.ntmps3
  go_wp2_with fail
  generalize hW0 : w.alloc (.cells #[.int .i64 kind, .string a] 23) = W0 at *
  have hb0 : Below w.heap.size w W0 := by rw [← hW0]; exact below_new _ _
  have hp0 : W0.heap[w.heap.size]? = some (.cells #[.int .i64 kind, .string a] 23 (0, 0)) := by rw [← hW0]; exact heap_alloc_new _ _
  clear hW0
  refine (works_any W0 (HT.out.on hb0)).mono ?_
  rintro e w1 ⟨rfl, hb1⟩
  have hp1 := (hb1.block _ (lt_of_block hp0)).trans hp0
  have y0 : w1.cell? ⟨w.heap.size, 0, none⟩ = some (.int .i64 kind) := by rw [cell_of_row _ _ 0 _ _ _ hp1]; rfl
  have y1 : w1.cell? ⟨w.heap.size, 1, none⟩ = some (.string a) := by rw [cell_of_row _ _ 1 _ _ _ hp1]; rfl
  have HB1 := Lib.hid (below_then hb0 hb1 (Nat.le_refl _)); have HP1 := Lib.hid hp1
  have HT1 := Lib.hid (HT.out.on HB1.out)
  clear hb0 hp0 hb1 hp1
  go_wp2_with fail
  refine (of_any kind a w1 ha HT1.out).mono ?_
  rintro e w2 (⟨t, b, A, ht, rfl, ho, hc⟩ | ⟨hno, rfl, hb2⟩)
  · have HN2 := Lib.hid (ho.is hc ht)
    have HB2 := Lib.hid (below_then HB1.out ho.up (Nat.le_refl _))
    have HT2 := Lib.hid (HT.out.on HB2.out)
    have HP2 := Lib.hid ((ho.up.block _ (lt_of_block HP1.out)).trans HP1.out)
    have HTE := Lib.hid ht
    clear ho hc ht y0 y1 HP1
    have y0 : w2.cell? ⟨w.heap.size, 0, none⟩ = some (.int .i64 kind) := by rw [cell_of_row _ _ 0 _ _ _ HP2.out]; rfl
    have y1 : w2.cell? ⟨w.heap.size, 1, none⟩ = some (.string a) := by rw [cell_of_row _ _ 1 _ _ _ HP2.out]; rfl
    go_wp2_with fail
    refine (rtree_or kind a w2 ha).mono ?_
    rintro e w3 (⟨t2, A2, c2, ht2, rfl, hK, hb⟩ | ⟨x, k, hx, hno, rfl, hb⟩)
    · obtain rfl : t = t2 := by have := HTE.out.symm.trans ht2; injection this
      have HN3 := Lib.hid (HN2.out.on hb); have HB3 := Lib.hid (below_then HB2.out hb (Nat.le_refl _))
      obtain ⟨hta, hbn⟩ := TrAt.made hK
      clear ht2 hb y0 y1
      go_upto_region 5 with (fail)
      generalize (w3.alloc (.cells #[.int .i64 t.op, .int .u64 (word t.set 0), .int .u64 (word t.set 1), .int .u64 (word t.set 2), .int .u64 (word t.set 3), .slice A2 t.kids.length c2] TN)).alloc (.cells #[.int .i64 0, .int .i64 0] TSp) = w4 at *
      have HN4 := Lib.hid (HN3.out.on hbn); have HB4 := Lib.hid (below_then HB3.out hbn (Nat.le_refl _)); have HTA := Lib.hid hta
      obtain ⟨e0, e1⟩ := hta.err
      obtain ⟨x0, x1, x2, x3, x4, x5⟩ := hta.cells
      have HIT := Lib.hid hta.tree
      clear hK hbn hta
      by_cases hl : 100 < s.size
      · have h1 : decide (100 < (s.size : Int)) = true := by simp; omega
        go_wp2_with fail
        go_quiet (fail)
        go_wp2_with fail
        go_ret
        exact ⟨rfl, below_then HB4.out (below_drew _ _ _) (Nat.le_refl _)⟩
      · have h1 : decide (100 < (s.size : Int)) = false := by simp; omega
        have hM : ∀ W, Below w4.heap.size w4 W → Calls Tryd.prog 14 #[.pointer (some ⟨b, 0, none⟩), .string s] W fun e w' => e = .returned (.bool (fitsB t s.data.toList)) ∧ Below W.heap.size W w' := fun W hW => match_any b t A s W (HN4.out.on hW) (HT.out.on (below_then HB4.out hW (Nat.le_refl _))) (by omega)
        have hF : ∀ W, Below w4.heap.size w4 W → Calls Tryd.prog 15 #[nodeV t (.slice A2 t.kids.length c2), .string s] W fun e w' => e = .returned (.bool (fitsB t s.data.toList)) ∧ Below W.heap.size W w' := fun W hW => fits_any s (by omega) HTE.out _ _ W (HIT.out.on hW)
        simp only [nodeV, nodeC] at hF
        have HM := Lib.hid hM; have HF := Lib.hid hF
        have hself : (fitsB t s.data.toList == fitsB t s.data.toList) = true := by simp
        have HTA' := HTA; clear HTA'
        clear hM hF HTA HIT HTE HN4 HN3 HN2
        generalize fitsB t s.data.toList = r at *
        generalize word t.set 0 = u0 at *
        generalize word t.set 1 = u1 at *
        generalize word t.set 2 = u2 at *
        generalize word t.set 3 = u3 at *
        generalize t.op = uo at *
        generalize t.kids.length = ul at *
        obtain ⟨B, hB⟩ : ∃ B, w3.heap.size = B := ⟨_, rfl⟩
        rw [hB] at e0 e1 x0 x1 x2 x3 x4 x5 ⊢
        clear hB
        go_wp2_with fail
        go_region_held3 (fun w' => w'.cell? ⟨B, 0, none⟩ = some (.int .i64 uo) ∧ w'.cell? ⟨B, 1, none⟩ = some (.int .u64 u0) ∧ w'.cell? ⟨B, 2, none⟩ = some (.int .u64 u1) ∧ w'.cell? ⟨B, 3, none⟩ = some (.int .u64 u2) ∧ w'.cell? ⟨B, 4, none⟩ = some (.int .u64 u3) ∧ w'.cell? ⟨B, 5, none⟩ = some (.slice A2 ul c2))
          (first | exact ⟨x0, x1, x2, x3, x4, x5⟩ | exact ⟨cell_below x0 hb2, cell_below x1 hb2, cell_below x2 hb2, cell_below x3 hb2, cell_below x4 hb2, cell_below x5 hb2⟩ | exact ⟨cell_below x0 hb3, cell_below x1 hb3, cell_below x2 hb3, cell_below x3 hb3, cell_below x4 hb3, cell_below x5 hb3⟩)
          (first
          | (go_at_call 14; refine (HM.out w4.drew ⟨rfl, rfl, rfl, Nat.le_refl _, fun _ _ => rfl⟩).mono ?_; rintro e w5 ⟨rfl, hb⟩; have hb2 : Below w4.heap.size w4 w5 := ⟨hb.os, hb.tape, hb.output, hb.size, fun k hk => hb.block k hk⟩; clear hb)
          | (go_at_call 15; refine (HF.out w5 hb2).mono ?_; rintro e w6 ⟨rfl, hb⟩; have hb3 : Below w4.heap.size w4 w6 := below_then hb2 hb (Nat.le_refl _); clear hb))
        all_goals (go_wp2_with fail; go_ret; exact ⟨rfl, below_then HB4.out hb3 (Nat.le_refl _)⟩)
    · exact absurd HTE.out (hno t)
  · have HB2 := Lib.hid (below_then HB1.out hb2 (Nat.le_refl _))
    have HP2 := Lib.hid ((hb2.block _ (lt_of_block HP1.out)).trans HP1.out)
    have HNO := Lib.hid hno
    clear hno y0 y1 HP1 hb2
    have y0 : w2.cell? ⟨w.heap.size, 0, none⟩ = some (.int .i64 kind) := by rw [cell_of_row _ _ 0 _ _ _ HP2.out]; rfl
    have y1 : w2.cell? ⟨w.heap.size, 1, none⟩ = some (.string a) := by rw [cell_of_row _ _ 1 _ _ _ HP2.out]; rfl
    go_wp2_with fail
    refine (rtree_or kind a w2 ha).mono ?_
    rintro e w3 (⟨t2, A2, c2, ht2, rfl, hK, hb⟩ | ⟨x, k, hx, hno, rfl, hb⟩)
    · exact absurd ht2 (HNO.out t2)
    · have HB3 := Lib.hid (below_then HB2.out hb (Nat.le_refl _))
      clear hno hb y0 y1
      have hx0 : ((x : Int) == 0) = false := by rw [beq_eq_false_iff_ne]; rcases hx with rfl | rfl | rfl <;> decide
      clear hx
      go_wp2_with fail
      go_ret
      exact ⟨rfl, below_then HB3.out (two_below _ _ _) (Nat.le_refl _)⟩
end Go.Proofs.YtpiflikblpfgoaaDoor
