/- match.Matcher.Buffer; what works asks for. -/
import Derived.Test.YtfhggnbnbopkkaaDoorMatFeed
namespace Go.Proofs.YtfhggnbnbopkkaaDoor
open Go.RowKit PM

set_option maxRecDepth 100000
/-- the buffer's text -/
theorem conv_own {w : World} {base n : Nat} {v : Value} {l : List UInt8} (h : w.ownsRow base TU8 1 v n (bytesC l)) : (convert 76 9 v).run Tryd.prog w = .ok (.string ⟨l.toArray⟩) w := by
  have hln : l.length = n := by have := h.1; rw [bytesC_len] at this; omega
  rcases own_slice h with ⟨hv, h0⟩ | ⟨g, cap, cs, hv, h1, _, h3, hg⟩
  · subst hv
    obtain rfl : l = [] := List.eq_nil_of_length_eq_zero (by omega)
    exact run_convert_bytes_nil w _ _ Tryd.underlying76 Tryd.underlying5 0 0 _ Tryd.underlying9
  · subst hv
    have hb : BRow w g l := ⟨cs, (0, 0), hg, .inl (Nat.le_refl _), by omega, fun i hi => by
      have hc := h.cells (g := g) rfl i (.int .u8 l[i].toNat) (by simp [bytesC, hi])
      rw [Addr.add_lit, Nat.zero_add, cell_of_row _ _ _ _ _ _ hg] at hc
      rw [hc]; simp [List.getD, hi]⟩
    rw [← hln]
    exact hb.str 76 9 TU8 Tryd.underlying76 Tryd.underlying5 Tryd.underlying9
theorem buffer_any {x : Mx} {arms : List Arm} {buf cur : List UInt8} {R : List Rw} {bv : Value} (w : World) (hm : MaIs w x arms buf cur R bv) :
    Calls Tryd.prog 23 #[.pointer (some ⟨x.mb, 0, none⟩)] w fun e w' => e = .returned (.string ⟨buf.toArray⟩) ∧ w' = w := by
  have k2 := hm.cells.2.2.1
  have hcv := conv_own hm.buf
  clear hm
  go_enter Tryd.func23, Tryd.ntmps23
  go_wp2_with fail
  go_ret
  exact ⟨rfl, rfl⟩
/-- two matches, told apart -/
theorem eq_hit (a p e a' p' e' : Int) (w : World) : (binOp .eql THit (.agg #[.int .i64 a, .int .i64 p, .int .i64 e]) (.agg #[.int .i64 a', .int .i64 p', .int .i64 e'])).run Tryd.prog w = .ok (.bool (decide (a = a' ∧ p = p' ∧ e = e'))) w := by
  rw [run_eql_struct]
  simp [go_sem]
  by_cases h1 : a = a' <;> by_cases h2 : p = p' <;> by_cases h3 : e = e' <;> simp [h1, h2, h3]
def worksP : List Pat := [⟨1, ⟨#[98]⟩⟩, ⟨3, ⟨#[97, 43]⟩⟩]
def worksT : List T := [joined 3 [one 98], joined 3 [over 6 (one 97)]]
theorem works_trees : Trees worksP worksT := ⟨rfl, fun k p t hp ht => by
  rcases k with _ | _ | k
  · cases hp; cases ht; exact ⟨by rfl, by show emptyT (.mk 2 _ []) = false; rw [emptyT_mk]; rfl⟩
  · cases hp; cases ht; exact ⟨by rfl, by show emptyT (.mk 6 _ [.mk 2 _ []]) = false; rw [emptyT_mk]; simp only []; rw [emptyT_mk]; rfl⟩
  · cases hp⟩
theorem works_first : first worksT [120, 97, 98] = some (1, 1, 2) := by rfl
theorem works_feed : feed worksT [] [120, 97, 98] = (2, some (1, 1, 2), []) := by rfl
theorem works_keep : keep [97] = [97] := by rfl
theorem works_may : May worksP := ⟨by decide, fun p hp => by
  simp only [worksP, List.mem_cons, List.not_mem_nil, or_false] at hp
  rcases hp with rfl | rfl
  · exact ⟨_, works_trees.2 0 _ _ rfl rfl⟩
  · exact ⟨_, works_trees.2 1 _ _ rfl rfl⟩⟩
theorem works_lie (w : World) : PIn (w.alloc (.cells #[.int .i64 1, .string ⟨#[98]⟩, .int .i64 3, .string ⟨#[97, 43]⟩] TPat)) (some ⟨w.heap.size, 0, none⟩) worksP :=
  PIn.row (heap_alloc_new w _) (fun k p hp => by
    rcases k with _ | _ | k
    · cases hp; exact ⟨rfl, rfl⟩
    · cases hp; exact ⟨rfl, rfl⟩
    · cases hp) (fun p hp => by
    simp only [worksP, List.mem_cons, List.not_mem_nil, or_false] at hp
    rcases hp with rfl | rfl <;> decide)
set_option maxHeartbeats 4000000 in
theorem works_any (w : World) (hT : Tab w) :
    Calls Tryd.prog 12 #[] w fun e w' => e = .returned (.bool true) ∧ Below w.heap.size w w' := by
  have HB0 := Lib.hid (below_new w (.cells #[.int .i64 1, .string ⟨#[98]⟩, .int .i64 3, .string ⟨#[97, 43]⟩] TPat))
  have HP0 := Lib.hid (works_lie w)
  have HT := Lib.hid hT
  clear hT
  go_enter Tryd.func12, Tryd.ntmps12
  go_upto_region 2 with (fail)
  change Code.wp _ _ _ _ (w.alloc (.cells #[.int .i64 1, .string ⟨#[98]⟩, .int .i64 3, .string ⟨#[97, 43]⟩] TPat))
  generalize w.alloc (.cells #[.int .i64 1, .string ⟨#[98]⟩, .int .i64 3, .string ⟨#[97, 43]⟩] TPat) = W0 at *
  have HNW := Lib.hid (new_any _ 2 worksP W0 HP0.out (tab_on HT.out HB0.out) (by decide))
  go_wp2_with fail
  refine HNW.out.mono ?_
  rintro e W1 (⟨hno, _⟩ | ⟨_, x, arms, R, rfl, hma, htr, hup, hge⟩)
  · exact absurd works_may hno
  · have htt : trees arms = worksT := htr.one works_trees
    have H1 := Lib.hid (And.intro hma (And.intro htt (And.intro (below_then HB0.out hup (Nat.le_refl _)) (And.intro (HP0.out.on hup) (fun k hk => Nat.le_trans HB0.out.size (hge k hk))))))
    clear hma htr hup hge htt HNW HB0 HP0
    have HF := Lib.hid (first_any _ 2 worksP ⟨#[120, 97, 98]⟩ W1 H1.out.2.2.2.1 H1.out.1.nets.tab (by decide) (by decide))
    go_wp2_with fail
    refine HF.out.mono ?_
    rintro e W2 ⟨hup, (⟨hno, _⟩ | ⟨_, ts, hts, he⟩)⟩
    · exact absurd works_may hno
    · have he2 : e = .returned (.tuple #[.agg #[.int .i64 1, .int .i64 1, .int .i64 2], .bool true]) := by rw [he, hts.one works_trees, works_first]; rfl
      subst he2
      have hb2 := hup.trans ((below_new W2 (.cells #[.int .i64 1, .int .i64 1, .int .i64 2] THit)).mono hup.size)
      have H3 := Lib.hid (And.intro (H1.out.1.on hb2) (And.intro (below_then H1.out.2.2.1 hb2 (Nat.le_refl _)) (heap_alloc_new W2 (.cells #[.int .i64 1, .int .i64 1, .int .i64 2] THit))))
      have HGE := Lib.hid H1.out.2.2.2.2
      have HTT := Lib.hid H1.out.2.1
      have hs3 : w.heap.size ≤ W2.heap.size := Nat.le_trans H1.out.2.2.1.size hup.size
      clear hup hts he hb2 HF H1
      go_upto_region 6 with (fail)
      change Code.wp _ _ _ _ (W2.alloc (.cells #[.int .i64 1, .int .i64 1, .int .i64 2] THit))
      obtain ⟨b1, hb1⟩ : ∃ b1, W2.heap.size = b1 := ⟨_, rfl⟩
      rw [hb1] at H3 hs3 ⊢
      generalize W2.alloc (.cells #[.int .i64 1, .int .i64 1, .int .i64 2] THit) = W3 at *
      clear hb1
      have HFD := Lib.hid (feed_any x arms [] R (.slice none 0 0) ⟨#[120, 97, 98]⟩ W3 H3.out.1 (by decide) (by decide))
      go_wp2_with fail
      refine HFD.out.mono ?_
      rintro e W4 ⟨he, ht4, _⟩
      have he2 : e = .returned (.tuple #[.int .i64 2, .agg #[.int .i64 1, .int .i64 1, .int .i64 2], .bool true]) := by rw [he, HTT.out, works_feed]; rfl
      subst he2
      have hlt3 := lt_of_block H3.out.2.2
      have hup4 : Below w.heap.size w W4 := below_turned H3.out.2.1 (Nat.le_of_lt (Nat.lt_of_le_of_lt hs3 hlt3)) ht4 HGE.out
      have hbx4 : W4.heap[b1]? = some (.cells #[.int .i64 1, .int .i64 1, .int .i64 2] THit (0, 0)) := (ht4.block b1 hlt3 (H3.out.1.not H3.out.2.2 hit_ty)).trans H3.out.2.2
      have hb4 := below_new W4 (.cells #[.int .i64 1, .int .i64 1, .int .i64 2] THit)
      have H5 := Lib.hid (And.intro (below_then hup4 hb4 (Nat.le_refl _)) (And.intro ((hb4.block b1 (lt_of_block hbx4)).trans hbx4) (heap_alloc_new W4 (.cells #[.int .i64 1, .int .i64 1, .int .i64 2] THit))))
      clear he ht4 hup4 hbx4 hb4 HFD H3 hlt3
      go_upto_region 7 with (fail)
      change Code.wp _ _ _ _ (W4.alloc (.cells #[.int .i64 1, .int .i64 1, .int .i64 2] THit))
      obtain ⟨b2, hb2⟩ : ∃ b2, W4.heap.size = b2 := ⟨_, rfl⟩
      rw [hb2] at H5 ⊢
      generalize W4.alloc (.cells #[.int .i64 1, .int .i64 1, .int .i64 2] THit) = W5 at *
      clear hb2
      have c0 : W5.cell? ⟨b1, 0, none⟩ = some (.int .i64 1) := by rw [cell_of_row _ _ _ _ _ _ H5.out.2.1]; rfl
      have c1 : W5.cell? ⟨b1, 1, none⟩ = some (.int .i64 1) := by rw [cell_of_row _ _ _ _ _ _ H5.out.2.1]; rfl
      have c2 : W5.cell? ⟨b1, 2, none⟩ = some (.int .i64 2) := by rw [cell_of_row _ _ _ _ _ _ H5.out.2.1]; rfl
      have d0 : W5.cell? ⟨b2, 0, none⟩ = some (.int .i64 1) := by rw [cell_of_row _ _ _ _ _ _ H5.out.2.2]; rfl
      have d1 : W5.cell? ⟨b2, 1, none⟩ = some (.int .i64 1) := by rw [cell_of_row _ _ _ _ _ _ H5.out.2.2]; rfl
      have d2 : W5.cell? ⟨b2, 2, none⟩ = some (.int .i64 2) := by rw [cell_of_row _ _ _ _ _ _ H5.out.2.2]; rfl
      have heq := eq_hit 1 1 2 1 1 2
      have hk := Lib.hid (keep_any ⟨#[97]⟩ W5 (by decide))
      go_wp2_with fail
      refine hk.out.mono ?_
      rintro e W6 ⟨rfl, rfl⟩
      go_wp2_with fail
      go_ret
      exact ⟨rfl, H5.out.1⟩
end Go.Proofs.YtfhggnbnbopkkaaDoor
