/- The law MessageAbove, walked. -/
import Derived.Test.YtbapifbahhjfgaaMsgAbove
namespace Go.Proofs.Ytbapifbahhjfgaa
open Go.RowKit

abbrev TF : TypeId := 25
def fcells (x : Int × Int) : Array Value := #[.int .i64 x.1, .int .i64 x.2]
def FM (w : World) (g : Nat) (a b c : Int × Int) : Prop := w.heap[g]? = some (.cells (fcells a) TF (0, 0)) ∧ w.heap[g + 1]? = some (.cells (fcells b) TF (0, 0)) ∧ w.heap[g + 2]? = some (.cells (fcells c) TF (0, 0))
theorem FM.below {w w' : World} {g : Nat} {a b c : Int × Int} (h : FM w g a b c) (hb : Below w.heap.size w w') : FM w' g a b c := ⟨cell_block h.1 hb, cell_block h.2.1 hb, cell_block h.2.2 hb⟩
theorem FM.cells {w : World} {g : Nat} {a b c : Int × Int} (h : FM w g a b c) : w.cell? ⟨g, 0, none⟩ = some (.int .i64 a.1) ∧ w.cell? ⟨g, 1, none⟩ = some (.int .i64 a.2) ∧ w.cell? ⟨g + 1, 0, none⟩ = some (.int .i64 b.1) ∧ w.cell? ⟨g + 1, 1, none⟩ = some (.int .i64 b.2) ∧ w.cell? ⟨g + 2, 0, none⟩ = some (.int .i64 c.1) ∧ w.cell? ⟨g + 2, 1, none⟩ = some (.int .i64 c.2) := by
  refine ⟨?_, ?_, ?_, ?_, ?_, ?_⟩
  · rw [cell_of_row w g 0 _ _ _ h.1]; rfl
  · rw [cell_of_row w g 1 _ _ _ h.1]; rfl
  · rw [cell_of_row w (g + 1) 0 _ _ _ h.2.1]; rfl
  · rw [cell_of_row w (g + 1) 1 _ _ _ h.2.1]; rfl
  · rw [cell_of_row w (g + 2) 0 _ _ _ h.2.2]; rfl
  · rw [cell_of_row w (g + 2) 1 _ _ _ h.2.2]; rfl

theorem above_self (a : Int × Int) : above a a = false := by simp [above]
theorem above_trans {a b c : Int × Int} (h : above a b = true) (h' : above b c = true) : above a c = true := by
  simp [above] at h h' ⊢
  omega

set_option maxRecDepth 100000 in
set_option maxHeartbeats 16000000 in
theorem messageAbove_walk (a b c : Int × Int) (w : World) :
    Calls Try.prog 6 #[fence a, fence b, fence c] w fun e w' => e = .returned (.bool true) ∧ Below w.heap.size w w' := by
  have hm : FM (((w.alloc (.cells (fcells a) TF)).alloc (.cells (fcells b) TF)).alloc (.cells (fcells c) TF)) w.heap.size a b c := by
    have h1 := heap_alloc_new w (.cells (fcells a) TF)
    have h2 := heap_alloc_new (w.alloc (.cells (fcells a) TF)) (.cells (fcells b) TF)
    have h3 := heap_alloc_new ((w.alloc (.cells (fcells a) TF)).alloc (.cells (fcells b) TF)) (.cells (fcells c) TF)
    have b2 := below_new (w.alloc (.cells (fcells a) TF)) (.cells (fcells b) TF)
    have b3 := below_new ((w.alloc (.cells (fcells a) TF)).alloc (.cells (fcells b) TF)) (.cells (fcells c) TF)
    refine ⟨cell_block (cell_block h1 b2) b3, ?_, ?_⟩
    · have := cell_block h2 b3
      rwa [World.size_alloc] at this
    · have := h3
      rwa [World.size_alloc, World.size_alloc] at this
  have HM := Lib.hid hm
  have HB := Lib.hid ((((Below.refl _ w).alloc (Nat.le_refl _) (.cells (fcells a) TF)).alloc (by simp) (.cells (fcells b) TF)).alloc (by simp; omega) (.cells (fcells c) TF))
  clear hm
  simp only [fence]
  go_enter Try.func6, Try.ntmps6
  go_wp2_with fail
  change Calls _ _ _ (((w.alloc (.cells (fcells a) TF)).alloc (.cells (fcells b) TF)).alloc (.cells (fcells c) TF)) _
  generalize ((w.alloc (.cells (fcells a) TF)).alloc (.cells (fcells b) TF)).alloc (.cells (fcells c) TF) = W0 at *
  obtain ⟨g, hg⟩ : ∃ g, w.heap.size = g := ⟨_, rfl⟩
  have HG := Lib.hid hg
  rw [hg] at HM ⊢
  clear hg
  refine (works_any W0).mono ?_
  rintro e w1 ⟨rfl, hb1⟩
  have HM1 := Lib.hid (HM.out.below hb1); have HB1 := Lib.hid (below_then HB.out hb1 (Nat.le_refl _))
  clear hb1 HM HB
  go_wp2_with fail
  refine wp_region_any (by kernel_rfl) ?_
  change wpAny _ _ _ _ _ _ _ w1.drew
  refine wpAny_of_held (S := (fun w' => FM w' g a b c)) _ _ _ _ ?_
  have hHeld := (show FM w1.drew g a b c from HM1.out)
  refine wpAnyH_take (i := 0) (v := .agg (fcells a)) (by simp only [List.getElem?_toArray, List.getElem?_cons_succ, List.getElem?_cons_zero]; rfl) (by kernel_rfl) (by kernel_rfl) (by kernel_rfl) (by exact fun _ _ _ h => h) (Or.inl ⟨by rfl, ?_⟩) (by assumption) ?_
  · (intro w hSw; exact run_load_row TF (.tmp 3) rfl g rfl TF _ (0, 0) _ hSw.1 Try.underlying25 rfl (by kernel_rfl))
  try simp only [Act.put, List.setIfInBounds_toArray, List.set_cons_zero, List.set_cons_succ]
  refine wpAnyH_take (i := 1) (v := .agg (fcells b)) (by simp only [List.getElem?_toArray, List.getElem?_cons_succ, List.getElem?_cons_zero]; rfl) (by kernel_rfl) (by kernel_rfl) (by kernel_rfl) (by exact fun _ _ _ h => h) (Or.inl ⟨by rfl, ?_⟩) (by assumption) ?_
  · (intro w hSw; exact run_load_row TF (.tmp 4) rfl (g + 1) rfl TF _ (0, 0) _ hSw.2.1 Try.underlying25 rfl (by kernel_rfl))
  try simp only [Act.put, List.setIfInBounds_toArray, List.set_cons_zero, List.set_cons_succ]
  refine wpAnyH_take (i := 3) (v := .agg (fcells b)) (by simp only [List.getElem?_toArray, List.getElem?_cons_succ, List.getElem?_cons_zero]; rfl) (by kernel_rfl) (by kernel_rfl) (by kernel_rfl) (by exact fun _ _ _ h => h) (Or.inl ⟨by rfl, ?_⟩) (by assumption) ?_
  · (intro w hSw; exact run_load_row TF (.tmp 4) rfl (g + 1) rfl TF _ (0, 0) _ hSw.2.1 Try.underlying25 rfl (by kernel_rfl))
  try simp only [Act.put, List.setIfInBounds_toArray, List.set_cons_zero, List.set_cons_succ]
  refine wpAnyH_take (i := 4) (v := .agg (fcells a)) (by simp only [List.getElem?_toArray, List.getElem?_cons_succ, List.getElem?_cons_zero]; rfl) (by kernel_rfl) (by kernel_rfl) (by kernel_rfl) (by exact fun _ _ _ h => h) (Or.inl ⟨by rfl, ?_⟩) (by assumption) ?_
  · (intro w hSw; exact run_load_row TF (.tmp 3) rfl g rfl TF _ (0, 0) _ hSw.1 Try.underlying25 rfl (by kernel_rfl))
  try simp only [Act.put, List.setIfInBounds_toArray, List.set_cons_zero, List.set_cons_succ]
  refine wpAnyH_ready (rs := [2]) (by kernel_rfl) (by simp) ?_
  refine AllReadyH.cons (by simp only [List.getElem?_toArray, List.getElem?_cons_succ, List.getElem?_cons_zero]; rfl) (fun K hK => ?_) AllReadyH.nil
  go_simp
  refine (above_any a b _).mono ?_
  rintro e w2 ⟨rfl, hb2⟩
  have HM2 := Lib.hid (FM.below (w := w1.drew) HM1.out hb2)
  have HB2 := Lib.hid (below_then (Below.drew HB1.out) hb2 (Nat.le_refl _))
  clear hb2 HM1 HB1
  simp only []
  refine hK.out _ _ HM2.out (fun hHeld => ?_)
  clear hK K
  try simp only [Act.put, List.setIfInBounds_toArray, List.set_cons_zero, List.set_cons_succ]
  refine wpAnyH_ready (rs := [5]) (by kernel_rfl) (by simp) ?_
  refine AllReadyH.cons (by simp only [List.getElem?_toArray, List.getElem?_cons_succ, List.getElem?_cons_zero]; rfl) (fun K hK => ?_) AllReadyH.nil
  go_simp
  refine (above_any b a _).mono ?_
  rintro e w3 ⟨rfl, hb3⟩
  have HM3 := Lib.hid (FM.below HM2.out hb3)
  have HB3 := Lib.hid (below_then HB2.out hb3 (Nat.le_refl _))
  clear hb3 HM2 HB2
  simp only []
  refine hK.out _ _ HM3.out (fun hHeld => ?_)
  clear hK K
  try simp only [Act.put, List.setIfInBounds_toArray, List.set_cons_zero, List.set_cons_succ]
  refine wpAnyH_take (i := 6) (v := ?_) (by simp only [List.getElem?_toArray, List.getElem?_cons_succ, List.getElem?_cons_zero]; rfl) (by kernel_rfl) (by kernel_rfl) (by kernel_rfl) (by exact fun _ _ _ h => h) (Or.inl ⟨by rfl, ?_⟩) (by assumption) ?_
  rotate_left
  · (intro w hSw; (try clear hHeld); (try dsimp only at hSw); (try go_split_ands); go_simp)
    try with_reducible rfl
  try simp only [Act.put, List.setIfInBounds_toArray, List.set_cons_zero, List.set_cons_succ]
  refine wpAnyH_take (i := 7) (v := ?_) (by simp only [List.getElem?_toArray, List.getElem?_cons_succ, List.getElem?_cons_zero]; rfl) (by kernel_rfl) (by kernel_rfl) (by kernel_rfl) (by exact fun _ _ _ h => h) (Or.inl ⟨by rfl, ?_⟩) (by assumption) ?_
  rotate_left
  · (intro w hSw; (try clear hHeld); (try dsimp only at hSw); (try go_split_ands); go_simp)
    try with_reducible rfl
  try simp only [Act.put, List.setIfInBounds_toArray, List.set_cons_zero, List.set_cons_succ]
  refine wpAnyH_done (by kernel_rfl) ?_ _
  obtain ⟨a1, a2⟩ := a
  obtain ⟨b1, b2⟩ := b
  obtain ⟨c1, c2⟩ := c
  obtain ⟨p0, p1, p2, p3, -, -⟩ := HM3.out.cells
  simp only [] at p0 p1 p2 p3
  clear hHeld
  rcases Int.lt_trichotomy b1 a1 with h1 | h1 | h1
  · have ex : above (a1, a2) (b1, b2) = true := by simp [above]; omega
    have ey : above (b1, b2) (a1, a2) = false := by simp [above]; omega
    have hne : ¬ a1 = b1 := by omega
    rw [ex, ey]
    simp only [fcells]
    go_wp2_with fail
    refine (above_any (a1, a2) (a1, a2) _).mono ?_
    rintro e w4 ⟨rfl, hb4⟩
    rw [above_self]
    have HM4 := Lib.hid (HM3.out.below hb4); have HB4 := Lib.hid (below_then HB3.out hb4 (Nat.le_refl _))
    clear hb4 HM3 HB3 p0 p1 p2 p3
    have qq := HM4.out.cells
    obtain ⟨q0, q1, q2, q3, q4, q5⟩ := qq
    simp only [] at q0 q1 q2 q3 q4 q5
    change w4.cell? ⟨g + 1 + 1, 0, none⟩ = _ at q4
    change w4.cell? ⟨g + 1 + 1, 1, none⟩ = _ at q5
    go_wp2_with fail
    refine (above_any (b1, b2) (c1, c2) _).mono ?_
    rintro e w5 ⟨rfl, hb5⟩
    have HM5 := Lib.hid (HM4.out.below hb5); have HB5 := Lib.hid (below_then HB4.out hb5 (Nat.le_refl _))
    clear hb5 HM4 HB4 q0 q1 q2 q3 q4 q5
    have qq := HM5.out.cells
    obtain ⟨q0, q1, q2, q3, q4, q5⟩ := qq
    simp only [] at q0 q1 q2 q3 q4 q5
    change w5.cell? ⟨g + 1 + 1, 0, none⟩ = _ at q4
    change w5.cell? ⟨g + 1 + 1, 1, none⟩ = _ at q5
    by_cases hz : above (b1, b2) (c1, c2) = true
    · have ht := above_trans ex hz
      rw [hz]
      go_wp2_with fail
      refine (above_any (a1, a2) (c1, c2) _).mono ?_
      rintro e w6 ⟨rfl, hb6⟩
      rw [ht]
      have HB6 := Lib.hid (below_then HB5.out hb6 (Nat.le_refl _))
      clear hb6
      go_wp2_with fail
      go_ret
      exact ⟨rfl, HB6.out⟩
    · rw [Bool.not_eq_true] at hz
      rw [hz]
      go_wp2_with fail
      go_ret
      exact ⟨rfl, HB5.out⟩
  · subst h1
    rcases Int.lt_trichotomy b2 a2 with h2 | h2 | h2
    · have ex : above (b1, a2) (b1, b2) = true := by simp [above]; omega
      have ey : above (b1, b2) (b1, a2) = false := by simp [above]; omega
      have hne : ¬ a2 = b2 := by omega
      rw [ex, ey]
      simp only [fcells]
      go_wp2_with fail
      refine (above_any (b1, a2) (b1, a2) _).mono ?_
      rintro e w4 ⟨rfl, hb4⟩
      rw [above_self]
      have HM4 := Lib.hid (HM3.out.below hb4); have HB4 := Lib.hid (below_then HB3.out hb4 (Nat.le_refl _))
      clear hb4 HM3 HB3 p0 p1 p2 p3
      have qq := HM4.out.cells
      obtain ⟨q0, q1, q2, q3, q4, q5⟩ := qq
      simp only [] at q0 q1 q2 q3 q4 q5
      change w4.cell? ⟨g + 1 + 1, 0, none⟩ = _ at q4
      change w4.cell? ⟨g + 1 + 1, 1, none⟩ = _ at q5
      go_wp2_with fail
      refine (above_any (b1, b2) (c1, c2) _).mono ?_
      rintro e w5 ⟨rfl, hb5⟩
      have HM5 := Lib.hid (HM4.out.below hb5); have HB5 := Lib.hid (below_then HB4.out hb5 (Nat.le_refl _))
      clear hb5 HM4 HB4 q0 q1 q2 q3 q4 q5
      have qq := HM5.out.cells
      obtain ⟨q0, q1, q2, q3, q4, q5⟩ := qq
      simp only [] at q0 q1 q2 q3 q4 q5
      change w5.cell? ⟨g + 1 + 1, 0, none⟩ = _ at q4
      change w5.cell? ⟨g + 1 + 1, 1, none⟩ = _ at q5
      by_cases hz : above (b1, b2) (c1, c2) = true
      · have ht := above_trans ex hz
        rw [hz]
        go_wp2_with fail
        refine (above_any (b1, a2) (c1, c2) _).mono ?_
        rintro e w6 ⟨rfl, hb6⟩
        rw [ht]
        have HB6 := Lib.hid (below_then HB5.out hb6 (Nat.le_refl _))
        clear hb6
        go_wp2_with fail
        go_ret
        exact ⟨rfl, HB6.out⟩
      · rw [Bool.not_eq_true] at hz
        rw [hz]
        go_wp2_with fail
        go_ret
        exact ⟨rfl, HB5.out⟩
    · subst h2
      have ex := above_self (b1, b2)

      rw [ex]
      simp only [fcells]
      go_wp2_with fail
      refine (above_any (b1, b2) (b1, b2) _).mono ?_
      rintro e w4 ⟨rfl, hb4⟩
      rw [above_self]
      have HM4 := Lib.hid (HM3.out.below hb4); have HB4 := Lib.hid (below_then HB3.out hb4 (Nat.le_refl _))
      clear hb4 HM3 HB3 p0 p1 p2 p3
      have qq := HM4.out.cells
      obtain ⟨q0, q1, q2, q3, q4, q5⟩ := qq
      simp only [] at q0 q1 q2 q3 q4 q5
      change w4.cell? ⟨g + 1 + 1, 0, none⟩ = _ at q4
      change w4.cell? ⟨g + 1 + 1, 1, none⟩ = _ at q5
      go_wp2_with fail
      go_ret
      exact ⟨rfl, HB4.out⟩
    · have ex : above (b1, a2) (b1, b2) = false := by simp [above]; omega
      have ey : above (b1, b2) (b1, a2) = true := by simp [above]; omega
      have hne : ¬ a2 = b2 := by omega
      have hng : ¬ b2 < a2 := by omega
      rw [ex, ey]
      simp only [fcells]
      go_wp2_with fail
      refine (above_any (b1, a2) (b1, a2) _).mono ?_
      rintro e w4 ⟨rfl, hb4⟩
      rw [above_self]
      have HM4 := Lib.hid (HM3.out.below hb4); have HB4 := Lib.hid (below_then HB3.out hb4 (Nat.le_refl _))
      clear hb4 HM3 HB3 p0 p1 p2 p3
      have qq := HM4.out.cells
      obtain ⟨q0, q1, q2, q3, q4, q5⟩ := qq
      simp only [] at q0 q1 q2 q3 q4 q5
      change w4.cell? ⟨g + 1 + 1, 0, none⟩ = _ at q4
      change w4.cell? ⟨g + 1 + 1, 1, none⟩ = _ at q5
      go_wp2_with fail
      go_ret
      exact ⟨rfl, HB4.out⟩
  · have ex : above (a1, a2) (b1, b2) = false := by simp [above]; omega
    have ey : above (b1, b2) (a1, a2) = true := by simp [above]; omega
    have hne : ¬ a1 = b1 := by omega
    have hng : ¬ b1 < a1 := by omega
    rw [ex, ey]
    simp only [fcells]
    go_wp2_with fail
    refine (above_any (a1, a2) (a1, a2) _).mono ?_
    rintro e w4 ⟨rfl, hb4⟩
    rw [above_self]
    have HM4 := Lib.hid (HM3.out.below hb4); have HB4 := Lib.hid (below_then HB3.out hb4 (Nat.le_refl _))
    clear hb4 HM3 HB3 p0 p1 p2 p3
    have qq := HM4.out.cells
    obtain ⟨q0, q1, q2, q3, q4, q5⟩ := qq
    simp only [] at q0 q1 q2 q3 q4 q5
    change w4.cell? ⟨g + 1 + 1, 0, none⟩ = _ at q4
    change w4.cell? ⟨g + 1 + 1, 1, none⟩ = _ at q5
    go_wp2_with fail
    go_ret
    exact ⟨rfl, HB4.out⟩

end Go.Proofs.Ytbapifbahhjfgaa
