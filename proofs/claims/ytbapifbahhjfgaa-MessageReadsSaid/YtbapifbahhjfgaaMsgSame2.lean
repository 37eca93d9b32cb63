/- dragomanref17.Same. -/
import Derived.Test.YtbapifbahhjfgaaMsgSame
import Derived.Deep.RegionHeld3
namespace Go.Proofs.Ytbapifbahhjfgaa
open Go.RowKit

theorem cell_below {w w' : World} {a : Addr} {v : Value} (h : w.cell? a = some v) (hb : Below w.heap.size w w') : w'.cell? a = some v :=
  (World.cell?_of_block (hb.block a.block (World.block_lt_of_cell? w a h))).trans h

set_option maxRecDepth 100000 in
set_option maxHeartbeats 16000000 in
theorem same_any (m k : Msg) (A B : Option Addr) (c d : Nat) (w : World) (ha : EArg w w.heap.size A m.ents) (hb : EArg w w.heap.size B k.ents) (hn : m.ents.length ≤ 9223372036854775807) (hn2 : k.ents.length ≤ 9223372036854775807) :
    Calls Try.prog 11 #[m.val (.slice A m.ents.length c), k.val (.slice B k.ents.length d)] w fun e w' => Sames m k e ∧ Below w.heap.size w w' := by
  have hm0 : MB (w.alloc (.cells (m.cells (.slice A m.ents.length c)).toArray TM)) w.heap.size m (.slice A m.ents.length c) := heap_alloc_new w _
  have hm1 := hm0.below (below_new (w.alloc (.cells (m.cells (.slice A m.ents.length c)).toArray TM)) (.cells (k.cells (.slice B k.ents.length d)).toArray TM))
  have hm2 : MB ((w.alloc (.cells (m.cells (.slice A m.ents.length c)).toArray TM)).alloc (.cells (k.cells (.slice B k.ents.length d)).toArray TM)) (w.heap.size + 1) k (.slice B k.ents.length d) := by
    have := heap_alloc_new (w.alloc (.cells (m.cells (.slice A m.ents.length c)).toArray TM)) (.cells (k.cells (.slice B k.ents.length d)).toArray TM)
    rwa [World.size_alloc] at this
  have hB0 : Below w.heap.size w ((w.alloc (.cells (m.cells (.slice A m.ents.length c)).toArray TM)).alloc (.cells (k.cells (.slice B k.ents.length d)).toArray TM)) := ((Below.refl _ w).alloc (Nat.le_refl _) _).alloc (by simp) _
  have HM := Lib.hid hm1; have HK := Lib.hid hm2; have HB := Lib.hid hB0
  clear hm0 hm1 hm2 hB0
  simp only [Msg.val, Msg.cells] at HM HK HB ⊢
  go_enter Try.func11, Try.ntmps11
  go_wp2_with fail
  generalize Value.agg #[.int .u8 m.kind, .int .i64 (m.n 0), .int .i64 (m.n 1), .int .i64 (m.n 2), .int .i64 (m.n 3), .int .i64 (m.n 4), .int .i64 (m.n 5), .int .i64 (m.n 6), .bool m.good, .slice A m.ents.length c, .int .i64 (m.n 7), .int .i64 (m.n 8), .string m.data, .int .i64 (m.n 9), .int .i64 (m.n 10), .int .i64 (m.n 11), .int .i64 (m.n 12), .int .i64 (m.n 13), .int .i64 (m.n 14), .int .u8 m.op, .int .i64 m.err, .int .i64 m.leader] = V1
  generalize Value.agg #[.int .u8 k.kind, .int .i64 (k.n 0), .int .i64 (k.n 1), .int .i64 (k.n 2), .int .i64 (k.n 3), .int .i64 (k.n 4), .int .i64 (k.n 5), .int .i64 (k.n 6), .bool k.good, .slice B k.ents.length d, .int .i64 (k.n 7), .int .i64 (k.n 8), .string k.data, .int .i64 (k.n 9), .int .i64 (k.n 10), .int .i64 (k.n 11), .int .i64 (k.n 12), .int .i64 (k.n 13), .int .i64 (k.n 14), .int .u8 k.op, .int .i64 k.err, .int .i64 k.leader] = V2
  change Code.wp _ _ _ _ ((w.alloc (.cells (m.cells (.slice A m.ents.length c)).toArray TM)).alloc (.cells (k.cells (.slice B k.ents.length d)).toArray TM))
  replace HM : Hid (MB ((w.alloc (.cells (m.cells (.slice A m.ents.length c)).toArray TM)).alloc (.cells (k.cells (.slice B k.ents.length d)).toArray TM)) w.heap.size m (.slice A m.ents.length c)) := HM
  replace HK : Hid (MB ((w.alloc (.cells (m.cells (.slice A m.ents.length c)).toArray TM)).alloc (.cells (k.cells (.slice B k.ents.length d)).toArray TM)) (w.heap.size + 1) k (.slice B k.ents.length d)) := HK
  replace HB : Hid (Below w.heap.size w ((w.alloc (.cells (m.cells (.slice A m.ents.length c)).toArray TM)).alloc (.cells (k.cells (.slice B k.ents.length d)).toArray TM))) := HB
  have HEA := Lib.hid ha; have HEB := Lib.hid hb
  clear ha hb
  generalize ((w.alloc (.cells (m.cells (.slice A m.ents.length c)).toArray TM)).alloc (.cells (k.cells (.slice B k.ents.length d)).toArray TM)) = W0 at *
  have HMd := Lib.hid (MB.drew HM.out); have HKd := Lib.hid (MB.drew HK.out); have HBd := Lib.hid (Below.drew HB.out)
  clear HM HK HB
  obtain ⟨g, hg⟩ : ∃ g, w.heap.size = g := ⟨_, rfl⟩
  have HG := Lib.hid hg
  rw [hg] at HMd HKd ⊢
  clear hg
  refine wp_region_any (by kernel_rfl) ?_
  change wpAny _ _ _ _ _ _ _ W0.drew
  refine wpAny_of_held (S := (fun w' => w'.heap[g]? = some (.cells (m.cells (.slice A m.ents.length c)).toArray TM (0, 0)) ∧ w'.heap[g + 1]? = some (.cells (k.cells (.slice B k.ents.length d)).toArray TM (0, 0)))) _ _ _ _ ?_
  have hHeld := (show W0.drew.heap[g]? = some (.cells (m.cells (.slice A m.ents.length c)).toArray TM (0, 0)) ∧ W0.drew.heap[g + 1]? = some (.cells (k.cells (.slice B k.ents.length d)).toArray TM (0, 0)) from ⟨HMd.out, HKd.out⟩)
  refine wpAnyH_take (i := 0) (v := .agg (m.cells (.slice A m.ents.length c)).toArray) (by simp only [List.getElem?_toArray, List.getElem?_cons_succ, List.getElem?_cons_zero]; rfl) (by kernel_rfl) (by kernel_rfl) (by kernel_rfl) (by exact fun _ _ _ h => h) (Or.inl ⟨by rfl, ?_⟩) (by assumption) ?_
  · (intro w hSw; exact run_load_row TM (.tmp 2) rfl g rfl TM _ (0, 0) _ hSw.1 Try.underlying28 rfl (by kernel_rfl))
  try simp only [Act.put, List.setIfInBounds_toArray, List.set_cons_zero, List.set_cons_succ]
  refine wpAnyH_take (i := 2) (v := .agg (k.cells (.slice B k.ents.length d)).toArray) (by simp only [List.getElem?_toArray, List.getElem?_cons_succ, List.getElem?_cons_zero]; rfl) (by kernel_rfl) (by kernel_rfl) (by kernel_rfl) (by exact fun _ _ _ h => h) (Or.inl ⟨by rfl, ?_⟩) (by assumption) ?_
  · (intro w hSw; exact run_load_row TM (.tmp 3) rfl (g + 1) rfl TM _ (0, 0) _ hSw.2 Try.underlying28 rfl (by kernel_rfl))
  try simp only [Act.put, List.setIfInBounds_toArray, List.set_cons_zero, List.set_cons_succ]
  refine wpAnyH_ready (rs := [1]) (by kernel_rfl) (by simp) ?_
  refine AllReadyH.cons (by simp only [List.getElem?_toArray, List.getElem?_cons_succ, List.getElem?_cons_zero]; rfl) (fun K hK => ?_) AllReadyH.nil
  go_simp
  refine (refNumbers_any m A c _).mono ?_
  rintro e w1 ⟨q1, rfl, hq1, hql1, hc1, hb1⟩
  have HM1 := Lib.hid (MB.below HMd.out hb1)
  have HK1 := Lib.hid (MB.below HKd.out hb1)
  have HB1 := Lib.hid (below_then HBd.out hb1 (Nat.le_refl _))
  have HC1 := Lib.hid hc1
  clear hb1 hc1 HMd HKd HBd
  simp only []
  refine hK.out _ _ ⟨HM1.out, HK1.out⟩ (fun hHeld => ?_)
  clear hK K
  try simp only [Act.put, List.setIfInBounds_toArray, List.set_cons_zero, List.set_cons_succ]
  refine wpAnyH_ready (rs := [3]) (by kernel_rfl) (by simp) ?_
  refine AllReadyH.cons (by simp only [List.getElem?_toArray, List.getElem?_cons_succ, List.getElem?_cons_zero]; rfl) (fun K hK => ?_) AllReadyH.nil
  go_simp
  refine (refNumbers_any k B d _).mono ?_
  rintro e w2 ⟨q2, rfl, hq2, hql2, hc2, hb2⟩
  have HM2 := Lib.hid (MB.below HM1.out hb2)
  have HK2 := Lib.hid (MB.below HK1.out hb2)
  have HB2 := Lib.hid (below_then HB1.out hb2 (Nat.le_refl _))
  have HC12 := Lib.hid (fun j hj => cell_below (HC1.out j hj) hb2)
  have HC2 := Lib.hid hc2
  clear hb2 hc2 HM1 HK1 HB1 HC1
  simp only []
  refine hK.out _ _ ⟨HM2.out, HK2.out⟩ (fun hHeld => ?_)
  clear hK K
  try simp only [Act.put, List.setIfInBounds_toArray, List.set_cons_zero, List.set_cons_succ]
  refine wpAnyH_take (i := 4) (v := ?_) (by simp only [List.getElem?_toArray, List.getElem?_cons_succ, List.getElem?_cons_zero]; rfl) (by kernel_rfl) (by kernel_rfl) (by kernel_rfl) (by exact fun _ _ _ h => h) (Or.inl ⟨by rfl, ?_⟩) (by assumption) ?_
  rotate_left
  · (intro w hSw; (try clear hHeld); (try dsimp only at hSw); (try go_split_ands); go_simp)
    try with_reducible rfl
  try simp only [Act.put, List.setIfInBounds_toArray, List.set_cons_zero, List.set_cons_succ]
  refine wpAnyH_take (i := 5) (v := ?_) (by simp only [List.getElem?_toArray, List.getElem?_cons_succ, List.getElem?_cons_zero]; rfl) (by kernel_rfl) (by kernel_rfl) (by kernel_rfl) (by exact fun _ _ _ h => h) (Or.inl ⟨by rfl, ?_⟩) (by assumption) ?_
  rotate_left
  · (intro w hSw; (try clear hHeld); (try dsimp only at hSw); (try go_split_ands); go_simp)
    try with_reducible rfl
  try simp only [Act.put, List.setIfInBounds_toArray, List.set_cons_zero, List.set_cons_succ]
  refine wpAnyH_done (by kernel_rfl) ?_ _
  clear hHeld
  go_wp2_with fail
  go_loopw [7] (fun i wr => ∃ j : Nat, j ≤ 15 ∧ i = .int .i64 j ∧ Hid (∀ i, i < j → m.n i = k.n i) ∧ Hid (MB wr g m (.slice A m.ents.length c)) ∧ Hid (MB wr (g + 1) k (.slice B k.ents.length d)) ∧ Hid (Below w.heap.size w wr) ∧
      Hid (∀ j, j < 15 → wr.cell? ⟨q1, j, none⟩ = some (.int .i64 (m.n j))) ∧ Hid (∀ j, j < 15 → wr.cell? ⟨q2, j, none⟩ = some (.int .i64 (k.n j)))) (fun i _ => 15 - (intOf i).toNat)
  case atStart => exact ⟨0, by omega, rfl, Lib.hid (fun i h => absurd h (Nat.not_lt_zero _)), HM2, HK2, HB2, HC12, HC2⟩
  case round =>
    obtain ⟨j, hj, rfl, HE, HMr, HKr, HBr, HCr, HDr⟩ := hrel
    clear HM2 HK2 HB2 HC12 HC2
    by_cases hlt : j < 15
    · have c1 := HCr.out j hlt
      have c2 := HDr.out j hlt
      have hlt2 : (j : Int) < 15 := by omega
      have hj0 : (0 : Int) ≤ j := by omega
      have hst : m.n j = k.n j → ∀ i, i < j + 1 → m.n i = k.n i := fun h i hi => by
        by_cases e : i = j
        · rw [e]; exact h
        · exact HE.out i (by omega)
      have hno : ¬ m.n j = k.n j → ¬ m.Eqv k := fun h e => h (e.n j hlt)
      have HST := Lib.hid hst; have HNO := Lib.hid hno
      clear hst hno HE
      generalize m.n j = x at *
      generalize k.n j = y at *
      go_wp2_with fail
      go_quiet (fail)
      by_cases e : x = y
      · have e1 : (x != y) = false := by rw [bne_eq_false_iff_eq]; exact e
        have HS := Lib.hid (HST.out e)
        clear e
        go_wp2_with fail
        exact ⟨⟨j + 1, by omega, by go_num, HS, HMr, HKr, Lib.hid (below_drawn HBr.out _), HCr, HDr⟩, by simp [intOf]; omega⟩
      · have e1 : (x != y) = true := by rw [bne_iff_ne]; exact e
        have HS := Lib.hid (HNO.out e)
        clear e
        go_wp2_with fail
        go_ret
        exact ⟨.inr ⟨rfl, HS.out⟩, below_drawn HBr.out _⟩
    · have hjj : j = 15 := by omega
      have hN : ∀ i, i < 15 → m.n i = k.n i := by rw [← hjj]; exact HE.out
      have HN := Lib.hid hN
      have hge : ¬ ((j : Int) < 15) := by omega
      clear hN hjj hlt HE HCr HDr
      have m0 := HMr.out.cell 0 _ rfl
      have m8 := HMr.out.cell 8 _ rfl
      have m9 := HMr.out.cell 9 _ rfl
      have m12 := HMr.out.cell 12 _ rfl
      have m19 := HMr.out.cell 19 _ rfl
      have m20 := HMr.out.cell 20 _ rfl
      have m21 := HMr.out.cell 21 _ rfl
      have k0 := HKr.out.cell 0 _ rfl
      have k8 := HKr.out.cell 8 _ rfl
      have k9 := HKr.out.cell 9 _ rfl
      have k12 := HKr.out.cell 12 _ rfl
      have k19 := HKr.out.cell 19 _ rfl
      have k20 := HKr.out.cell 20 _ rfl
      have k21 := HKr.out.cell 21 _ rfl

      by_cases heq : m.kind = k.kind ∧ m.good = k.good ∧ m.op = k.op ∧ m.err = k.err ∧ m.leader = k.leader ∧ m.data = k.data ∧ m.ents.length = k.ents.length
      · obtain ⟨h1, h2, h3, h4, h5, h6, h7⟩ := heq
        have HQ := Lib.hid (And.intro h1 (And.intro h2 (And.intro h3 (And.intro h4 (And.intro h5 (And.intro h6 h7))))))
        have e1 : ((m.kind : Int) != k.kind) = false := by rw [bne_eq_false_iff_eq]; omega
        have e2 : (m.good != k.good) = false := by rw [bne_eq_false_iff_eq]; exact h2
        have e3 : ((m.op : Int) != k.op) = false := by rw [bne_eq_false_iff_eq]; omega
        have e4 : (m.err != k.err) = false := by rw [bne_eq_false_iff_eq]; exact h4
        have e5 : (m.leader != k.leader) = false := by rw [bne_eq_false_iff_eq]; exact h5
        have e6 := str_eq h6
        have e7 : ((m.ents.length : Int) != k.ents.length) = false := by rw [bne_eq_false_iff_eq]; omega
        have h6' : m.data.toList = k.data.toList := by rw [h6]
        have h1' : (m.kind : Int) = k.kind := by omega
        have h3' : (m.op : Int) = k.op := by omega
        have h7' : (m.ents.length : Int) = k.ents.length := by omega
        clear h1 h3 h6 h7 e1 e2 e3 e4 e5 e6 e7
        go_wp2_with fail
        clear h1' h2 h3' h4 h5 h6' h7'
        clear m0 m8 m9 m12 m19 m20 m21 k0 k8 k9 k12 k19 k20 k21
        go_loopw [8] (fun i wr => ∃ j : Nat, j ≤ m.ents.length ∧ i = .int .i64 j ∧ Hid (∀ i, i < j → m.ents[i]? = k.ents[i]?) ∧ Hid (MB wr g m (.slice A m.ents.length c)) ∧ Hid (MB wr (g + 1) k (.slice B k.ents.length d)) ∧ Hid (Below w.heap.size w wr)) (fun i _ => m.ents.length - (intOf i).toNat)
        case atStart => exact ⟨0, by omega, rfl, Lib.hid (fun i h => absurd h (Nat.not_lt_zero _)), HMr, HKr, HBr⟩
        case round =>
          obtain ⟨j, hj, rfl, HE, HMs, HKs, HBs⟩ := hrel
          clear HMr HKr HBr
          have m9 := HMs.out.cell 9 _ rfl
          by_cases hlt : j < m.ents.length
          · have hltk : j < k.ents.length := by have := HQ.out.2.2.2.2.2.2; omega
            obtain ⟨ad, hA, hadb, h1, h2⟩ := (HEA.out.below HBs.out (Nat.le_refl _)) j hlt
            obtain ⟨bd, hB, hbdb, h3, h4⟩ := (HEB.out.below HBs.out (Nat.le_refl _)) j hltk
            have hst : m.ents[j] = k.ents[j] → ∀ i, i < j + 1 → m.ents[i]? = k.ents[i]? := fun h i hi => by
              by_cases e : i = j
              · rw [e, List.getElem?_eq_getElem hlt, List.getElem?_eq_getElem hltk, h]
              · exact HE.out i (by omega)
            have hno : ¬ m.ents[j] = k.ents[j] → ¬ m.Eqv k := fun h e => h (by have h2 := congrArg (fun l => l[j]?) e.ents; simp only [List.getElem?_eq_getElem hlt, List.getElem?_eq_getElem hltk] at h2; exact Option.some.inj h2)
            have HST := Lib.hid hst; have HNO := Lib.hid hno
            have hlt2 : (j : Int) < m.ents.length := by omega
            have hlt3 : (j : Int) < k.ents.length := by omega
            have hj0 : (0 : Int) ≤ j := by omega
            have k9 := HKs.out.cell 9 _ rfl
            subst hA hB
            clear hst hno HE
            generalize m.ents[j] = x at *
            generalize k.ents[j] = y at *
            obtain ⟨x1, x2⟩ := x
            obtain ⟨y1, y2⟩ := y
            simp only [] at h1 h2 h3 h4
            by_cases ex : x1 = y1
            · by_cases ey : x2 = y2
              · have HS := Lib.hid (HST.out (by rw [ex, ey]))
                subst ex ey
                go_wp2_with fail
                refine wp_region_any (by kernel_rfl) ?_
                change wpAny _ _ _ _ _ _ _ wr.drew
                refine wpAny_of_held (S := (fun w' => w'.cell? ⟨g, 9, none⟩ = some (.slice (some ad) m.ents.length c) ∧ w'.cell? ⟨g + 1, 9, none⟩ = some (.slice (some bd) k.ents.length d) ∧ w'.cell? (ad.add (j * 2)) = some (.int .i64 x1) ∧ w'.cell? ⟨(ad.add (j * 2)).block, (ad.add (j * 2)).off + 1, none⟩ = some (.string x2) ∧ w'.cell? (bd.add (j * 2)) = some (.int .i64 x1) ∧ w'.cell? ⟨(bd.add (j * 2)).block, (bd.add (j * 2)).off + 1, none⟩ = some (.string x2))) _ _ _ _ ?_
                have hHeld := (show wr.drew.cell? ⟨g, 9, none⟩ = some (.slice (some ad) m.ents.length c) ∧ wr.drew.cell? ⟨g + 1, 9, none⟩ = some (.slice (some bd) k.ents.length d) ∧ wr.drew.cell? (ad.add (j * 2)) = some (.int .i64 x1) ∧ wr.drew.cell? ⟨(ad.add (j * 2)).block, (ad.add (j * 2)).off + 1, none⟩ = some (.string x2) ∧ wr.drew.cell? (bd.add (j * 2)) = some (.int .i64 x1) ∧ wr.drew.cell? ⟨(bd.add (j * 2)).block, (bd.add (j * 2)).off + 1, none⟩ = some (.string x2) from ⟨m9, k9, h1, h2, h3, h4⟩)
                refine wpAnyH_take (i := 0) (v := ?_) (by simp only [List.getElem?_toArray, List.getElem?_cons_succ, List.getElem?_cons_zero]; rfl) (by kernel_rfl) (by kernel_rfl) (by kernel_rfl) (by exact fun _ _ _ h => h) (Or.inl ⟨by rfl, ?_⟩) (by assumption) ?_
                rotate_left
                · (intro w hSw; (try clear hHeld); (try dsimp only at hSw); (try go_split_ands); go_simp)
                  try with_reducible rfl
                try simp only [Act.put, List.setIfInBounds_toArray, List.set_cons_zero, List.set_cons_succ]
                refine wpAnyH_take (i := 1) (v := ?_) (by simp only [List.getElem?_toArray, List.getElem?_cons_succ, List.getElem?_cons_zero]; rfl) (by kernel_rfl) (by kernel_rfl) (by kernel_rfl) (by exact fun _ _ _ h => h) (Or.inl ⟨by rfl, ?_⟩) (by assumption) ?_
                rotate_left
                · (intro w hSw; (try clear hHeld); (try dsimp only at hSw); (try go_split_ands); go_simp)
                  try with_reducible rfl
                try simp only [Act.put, List.setIfInBounds_toArray, List.set_cons_zero, List.set_cons_succ]
                refine wpAnyH_take (i := 2) (v := ?_) (by simp only [List.getElem?_toArray, List.getElem?_cons_succ, List.getElem?_cons_zero]; rfl) (by kernel_rfl) (by kernel_rfl) (by kernel_rfl) (by exact fun _ _ _ h => h) (Or.inl ⟨by rfl, ?_⟩) (by assumption) ?_
                rotate_left
                · (intro w hSw; (try clear hHeld); (try dsimp only at hSw); (try go_split_ands); go_simp)
                  try with_reducible rfl
                try simp only [Act.put, List.setIfInBounds_toArray, List.set_cons_zero, List.set_cons_succ]
                refine wpAnyH_take (i := 3) (v := ?_) (by simp only [List.getElem?_toArray, List.getElem?_cons_succ, List.getElem?_cons_zero]; rfl) (by kernel_rfl) (by kernel_rfl) (by kernel_rfl) (by exact fun _ _ _ h => h) (Or.inl ⟨by rfl, ?_⟩) (by assumption) ?_
                rotate_left
                · (intro w hSw; (try clear hHeld); (try dsimp only at hSw); (try go_split_ands); go_simp)
                  try with_reducible rfl
                try simp only [Act.put, List.setIfInBounds_toArray, List.set_cons_zero, List.set_cons_succ]
                refine wpAnyH_take (i := 4) (v := ?_) (by simp only [List.getElem?_toArray, List.getElem?_cons_succ, List.getElem?_cons_zero]; rfl) (by kernel_rfl) (by kernel_rfl) (by kernel_rfl) (by exact fun _ _ _ h => h) (Or.inl ⟨by rfl, ?_⟩) (by assumption) ?_
                rotate_left
                · (intro w hSw; (try clear hHeld); (try dsimp only at hSw); (try go_split_ands); go_simp)
                  try with_reducible rfl
                try simp only [Act.put, List.setIfInBounds_toArray, List.set_cons_zero, List.set_cons_succ]
                refine wpAnyH_take (i := 5) (v := ?_) (by simp only [List.getElem?_toArray, List.getElem?_cons_succ, List.getElem?_cons_zero]; rfl) (by kernel_rfl) (by kernel_rfl) (by kernel_rfl) (by exact fun _ _ _ h => h) (Or.inl ⟨by rfl, ?_⟩) (by assumption) ?_
                rotate_left
                · (intro w hSw; (try clear hHeld); (try dsimp only at hSw); (try go_split_ands); go_simp)
                  try with_reducible rfl
                try simp only [Act.put, List.setIfInBounds_toArray, List.set_cons_zero, List.set_cons_succ]
                refine wpAnyH_take (i := 6) (v := ?_) (by simp only [List.getElem?_toArray, List.getElem?_cons_succ, List.getElem?_cons_zero]; rfl) (by kernel_rfl) (by kernel_rfl) (by kernel_rfl) (by exact fun _ _ _ h => h) (Or.inl ⟨by rfl, ?_⟩) (by assumption) ?_
                rotate_left
                · (intro w hSw; (try clear hHeld); (try dsimp only at hSw); (try go_split_ands); go_simp)
                  try with_reducible rfl
                try simp only [Act.put, List.setIfInBounds_toArray, List.set_cons_zero, List.set_cons_succ]
                refine wpAnyH_take (i := 7) (v := ?_) (by simp only [List.getElem?_toArray, List.getElem?_cons_succ, List.getElem?_cons_zero]; rfl) (by kernel_rfl) (by kernel_rfl) (by kernel_rfl) (by exact fun _ _ _ h => h) (Or.inl ⟨by rfl, ?_⟩) (by assumption) ?_
                rotate_left
                · (intro w hSw; (try clear hHeld); (try dsimp only at hSw); (try go_split_ands); go_simp)
                  try with_reducible rfl
                try simp only [Act.put, List.setIfInBounds_toArray, List.set_cons_zero, List.set_cons_succ]
                refine wpAnyH_take (i := 8) (v := ?_) (by simp only [List.getElem?_toArray, List.getElem?_cons_succ, List.getElem?_cons_zero]; rfl) (by kernel_rfl) (by kernel_rfl) (by kernel_rfl) (by exact fun _ _ _ h => h) (Or.inl ⟨by rfl, ?_⟩) (by assumption) ?_
                rotate_left
                · (intro w hSw; (try clear hHeld); (try dsimp only at hSw); (try go_split_ands); go_simp)
                  try with_reducible rfl
                try simp only [Act.put, List.setIfInBounds_toArray, List.set_cons_zero, List.set_cons_succ]
                refine wpAnyH_take (i := 9) (v := ?_) (by simp only [List.getElem?_toArray, List.getElem?_cons_succ, List.getElem?_cons_zero]; rfl) (by kernel_rfl) (by kernel_rfl) (by kernel_rfl) (by exact fun _ _ _ h => h) (Or.inl ⟨by rfl, ?_⟩) (by assumption) ?_
                rotate_left
                · (intro w hSw; (try clear hHeld); (try dsimp only at hSw); (try go_split_ands); go_simp)
                  try with_reducible rfl
                try simp only [Act.put, List.setIfInBounds_toArray, List.set_cons_zero, List.set_cons_succ]
                refine wpAnyH_take (i := 10) (v := ?_) (by simp only [List.getElem?_toArray, List.getElem?_cons_succ, List.getElem?_cons_zero]; rfl) (by kernel_rfl) (by kernel_rfl) (by kernel_rfl) (by exact fun _ _ _ h => h) (Or.inl ⟨by rfl, ?_⟩) (by assumption) ?_
                rotate_left
                · (intro w hSw; (try clear hHeld); (try dsimp only at hSw); (try go_split_ands); go_simp)
                  try with_reducible rfl
                try simp only [Act.put, List.setIfInBounds_toArray, List.set_cons_zero, List.set_cons_succ]
                refine wpAnyH_done (by kernel_rfl) ?_ _
                try clear hHeld
                go_wp2_with fail
                exact ⟨⟨j + 1, by omega, by go_num, HS, Lib.hid (MB.drew HMs.out), Lib.hid (MB.drew HKs.out), Lib.hid (Below.drew HBs.out)⟩, by simp [intOf]; omega⟩
              · have HS := Lib.hid (HNO.out (fun h => ey (congrArg Prod.snd h)))
                have ey' : ¬ x2.toList = y2.toList := fun h => ey (toList_inj h)
                clear ey
                go_wp2_with fail
                refine wp_region_any (by kernel_rfl) ?_
                change wpAny _ _ _ _ _ _ _ wr.drew
                refine wpAny_of_held (S := (fun w' => w'.cell? ⟨g, 9, none⟩ = some (.slice (some ad) m.ents.length c) ∧ w'.cell? ⟨g + 1, 9, none⟩ = some (.slice (some bd) k.ents.length d) ∧ w'.cell? (ad.add (j * 2)) = some (.int .i64 x1) ∧ w'.cell? ⟨(ad.add (j * 2)).block, (ad.add (j * 2)).off + 1, none⟩ = some (.string x2) ∧ w'.cell? (bd.add (j * 2)) = some (.int .i64 y1) ∧ w'.cell? ⟨(bd.add (j * 2)).block, (bd.add (j * 2)).off + 1, none⟩ = some (.string y2))) _ _ _ _ ?_
                have hHeld := (show wr.drew.cell? ⟨g, 9, none⟩ = some (.slice (some ad) m.ents.length c) ∧ wr.drew.cell? ⟨g + 1, 9, none⟩ = some (.slice (some bd) k.ents.length d) ∧ wr.drew.cell? (ad.add (j * 2)) = some (.int .i64 x1) ∧ wr.drew.cell? ⟨(ad.add (j * 2)).block, (ad.add (j * 2)).off + 1, none⟩ = some (.string x2) ∧ wr.drew.cell? (bd.add (j * 2)) = some (.int .i64 y1) ∧ wr.drew.cell? ⟨(bd.add (j * 2)).block, (bd.add (j * 2)).off + 1, none⟩ = some (.string y2) from ⟨m9, k9, h1, h2, h3, h4⟩)
                refine wpAnyH_take (i := 0) (v := ?_) (by simp only [List.getElem?_toArray, List.getElem?_cons_succ, List.getElem?_cons_zero]; rfl) (by kernel_rfl) (by kernel_rfl) (by kernel_rfl) (by exact fun _ _ _ h => h) (Or.inl ⟨by rfl, ?_⟩) (by assumption) ?_
                rotate_left
                · (intro w hSw; (try clear hHeld); (try dsimp only at hSw); (try go_split_ands); go_simp)
                  try with_reducible rfl
                try simp only [Act.put, List.setIfInBounds_toArray, List.set_cons_zero, List.set_cons_succ]
                refine wpAnyH_take (i := 1) (v := ?_) (by simp only [List.getElem?_toArray, List.getElem?_cons_succ, List.getElem?_cons_zero]; rfl) (by kernel_rfl) (by kernel_rfl) (by kernel_rfl) (by exact fun _ _ _ h => h) (Or.inl ⟨by rfl, ?_⟩) (by assumption) ?_
                rotate_left
                · (intro w hSw; (try clear hHeld); (try dsimp only at hSw); (try go_split_ands); go_simp)
                  try with_reducible rfl
                try simp only [Act.put, List.setIfInBounds_toArray, List.set_cons_zero, List.set_cons_succ]
                refine wpAnyH_take (i := 2) (v := ?_) (by simp only [List.getElem?_toArray, List.getElem?_cons_succ, List.getElem?_cons_zero]; rfl) (by kernel_rfl) (by kernel_rfl) (by kernel_rfl) (by exact fun _ _ _ h => h) (Or.inl ⟨by rfl, ?_⟩) (by assumption) ?_
                rotate_left
                · (intro w hSw; (try clear hHeld); (try dsimp only at hSw); (try go_split_ands); go_simp)
                  try with_reducible rfl
                try simp only [Act.put, List.setIfInBounds_toArray, List.set_cons_zero, List.set_cons_succ]
                refine wpAnyH_take (i := 3) (v := ?_) (by simp only [List.getElem?_toArray, List.getElem?_cons_succ, List.getElem?_cons_zero]; rfl) (by kernel_rfl) (by kernel_rfl) (by kernel_rfl) (by exact fun _ _ _ h => h) (Or.inl ⟨by rfl, ?_⟩) (by assumption) ?_
                rotate_left
                · (intro w hSw; (try clear hHeld); (try dsimp only at hSw); (try go_split_ands); go_simp)
                  try with_reducible rfl
                try simp only [Act.put, List.setIfInBounds_toArray, List.set_cons_zero, List.set_cons_succ]
                refine wpAnyH_take (i := 4) (v := ?_) (by simp only [List.getElem?_toArray, List.getElem?_cons_succ, List.getElem?_cons_zero]; rfl) (by kernel_rfl) (by kernel_rfl) (by kernel_rfl) (by exact fun _ _ _ h => h) (Or.inl ⟨by rfl, ?_⟩) (by assumption) ?_
                rotate_left
                · (intro w hSw; (try clear hHeld); (try dsimp only at hSw); (try go_split_ands); go_simp)
                  try with_reducible rfl
                try simp only [Act.put, List.setIfInBounds_toArray, List.set_cons_zero, List.set_cons_succ]
                refine wpAnyH_take (i := 5) (v := ?_) (by simp only [List.getElem?_toArray, List.getElem?_cons_succ, List.getElem?_cons_zero]; rfl) (by kernel_rfl) (by kernel_rfl) (by kernel_rfl) (by exact fun _ _ _ h => h) (Or.inl ⟨by rfl, ?_⟩) (by assumption) ?_
                rotate_left
                · (intro w hSw; (try clear hHeld); (try dsimp only at hSw); (try go_split_ands); go_simp)
                  try with_reducible rfl
                try simp only [Act.put, List.setIfInBounds_toArray, List.set_cons_zero, List.set_cons_succ]
                refine wpAnyH_take (i := 6) (v := ?_) (by simp only [List.getElem?_toArray, List.getElem?_cons_succ, List.getElem?_cons_zero]; rfl) (by kernel_rfl) (by kernel_rfl) (by kernel_rfl) (by exact fun _ _ _ h => h) (Or.inl ⟨by rfl, ?_⟩) (by assumption) ?_
                rotate_left
                · (intro w hSw; (try clear hHeld); (try dsimp only at hSw); (try go_split_ands); go_simp)
                  try with_reducible rfl
                try simp only [Act.put, List.setIfInBounds_toArray, List.set_cons_zero, List.set_cons_succ]
                refine wpAnyH_take (i := 7) (v := ?_) (by simp only [List.getElem?_toArray, List.getElem?_cons_succ, List.getElem?_cons_zero]; rfl) (by kernel_rfl) (by kernel_rfl) (by kernel_rfl) (by exact fun _ _ _ h => h) (Or.inl ⟨by rfl, ?_⟩) (by assumption) ?_
                rotate_left
                · (intro w hSw; (try clear hHeld); (try dsimp only at hSw); (try go_split_ands); go_simp)
                  try with_reducible rfl
                try simp only [Act.put, List.setIfInBounds_toArray, List.set_cons_zero, List.set_cons_succ]
                refine wpAnyH_take (i := 8) (v := ?_) (by simp only [List.getElem?_toArray, List.getElem?_cons_succ, List.getElem?_cons_zero]; rfl) (by kernel_rfl) (by kernel_rfl) (by kernel_rfl) (by exact fun _ _ _ h => h) (Or.inl ⟨by rfl, ?_⟩) (by assumption) ?_
                rotate_left
                · (intro w hSw; (try clear hHeld); (try dsimp only at hSw); (try go_split_ands); go_simp)
                  try with_reducible rfl
                try simp only [Act.put, List.setIfInBounds_toArray, List.set_cons_zero, List.set_cons_succ]
                refine wpAnyH_take (i := 9) (v := ?_) (by simp only [List.getElem?_toArray, List.getElem?_cons_succ, List.getElem?_cons_zero]; rfl) (by kernel_rfl) (by kernel_rfl) (by kernel_rfl) (by exact fun _ _ _ h => h) (Or.inl ⟨by rfl, ?_⟩) (by assumption) ?_
                rotate_left
                · (intro w hSw; (try clear hHeld); (try dsimp only at hSw); (try go_split_ands); go_simp)
                  try with_reducible rfl
                try simp only [Act.put, List.setIfInBounds_toArray, List.set_cons_zero, List.set_cons_succ]
                refine wpAnyH_take (i := 10) (v := ?_) (by simp only [List.getElem?_toArray, List.getElem?_cons_succ, List.getElem?_cons_zero]; rfl) (by kernel_rfl) (by kernel_rfl) (by kernel_rfl) (by exact fun _ _ _ h => h) (Or.inl ⟨by rfl, ?_⟩) (by assumption) ?_
                rotate_left
                · (intro w hSw; (try clear hHeld); (try dsimp only at hSw); (try go_split_ands); go_simp)
                  try with_reducible rfl
                try simp only [Act.put, List.setIfInBounds_toArray, List.set_cons_zero, List.set_cons_succ]
                refine wpAnyH_done (by kernel_rfl) ?_ _
                try clear hHeld
                go_wp2_with fail
                go_ret
                exact ⟨.inr ⟨rfl, HS.out⟩, Below.drew HBs.out⟩
            · have HS := Lib.hid (HNO.out (fun h => ex (congrArg Prod.fst h)))
              go_wp2_with fail
              refine wp_region_any (by kernel_rfl) ?_
              change wpAny _ _ _ _ _ _ _ wr.drew
              refine wpAny_of_held (S := (fun w' => w'.cell? ⟨g, 9, none⟩ = some (.slice (some ad) m.ents.length c) ∧ w'.cell? ⟨g + 1, 9, none⟩ = some (.slice (some bd) k.ents.length d) ∧ w'.cell? (ad.add (j * 2)) = some (.int .i64 x1) ∧ w'.cell? ⟨(ad.add (j * 2)).block, (ad.add (j * 2)).off + 1, none⟩ = some (.string x2) ∧ w'.cell? (bd.add (j * 2)) = some (.int .i64 y1) ∧ w'.cell? ⟨(bd.add (j * 2)).block, (bd.add (j * 2)).off + 1, none⟩ = some (.string y2))) _ _ _ _ ?_
              have hHeld := (show wr.drew.cell? ⟨g, 9, none⟩ = some (.slice (some ad) m.ents.length c) ∧ wr.drew.cell? ⟨g + 1, 9, none⟩ = some (.slice (some bd) k.ents.length d) ∧ wr.drew.cell? (ad.add (j * 2)) = some (.int .i64 x1) ∧ wr.drew.cell? ⟨(ad.add (j * 2)).block, (ad.add (j * 2)).off + 1, none⟩ = some (.string x2) ∧ wr.drew.cell? (bd.add (j * 2)) = some (.int .i64 y1) ∧ wr.drew.cell? ⟨(bd.add (j * 2)).block, (bd.add (j * 2)).off + 1, none⟩ = some (.string y2) from ⟨m9, k9, h1, h2, h3, h4⟩)
              refine wpAnyH_take (i := 0) (v := ?_) (by simp only [List.getElem?_toArray, List.getElem?_cons_succ, List.getElem?_cons_zero]; rfl) (by kernel_rfl) (by kernel_rfl) (by kernel_rfl) (by exact fun _ _ _ h => h) (Or.inl ⟨by rfl, ?_⟩) (by assumption) ?_
              rotate_left
              · (intro w hSw; (try clear hHeld); (try dsimp only at hSw); (try go_split_ands); go_simp)
                try with_reducible rfl
              try simp only [Act.put, List.setIfInBounds_toArray, List.set_cons_zero, List.set_cons_succ]
              refine wpAnyH_take (i := 1) (v := ?_) (by simp only [List.getElem?_toArray, List.getElem?_cons_succ, List.getElem?_cons_zero]; rfl) (by kernel_rfl) (by kernel_rfl) (by kernel_rfl) (by exact fun _ _ _ h => h) (Or.inl ⟨by rfl, ?_⟩) (by assumption) ?_
              rotate_left
              · (intro w hSw; (try clear hHeld); (try dsimp only at hSw); (try go_split_ands); go_simp)
                try with_reducible rfl
              try simp only [Act.put, List.setIfInBounds_toArray, List.set_cons_zero, List.set_cons_succ]
              refine wpAnyH_take (i := 2) (v := ?_) (by simp only [List.getElem?_toArray, List.getElem?_cons_succ, List.getElem?_cons_zero]; rfl) (by kernel_rfl) (by kernel_rfl) (by kernel_rfl) (by exact fun _ _ _ h => h) (Or.inl ⟨by rfl, ?_⟩) (by assumption) ?_
              rotate_left
              · (intro w hSw; (try clear hHeld); (try dsimp only at hSw); (try go_split_ands); go_simp)
                try with_reducible rfl
              try simp only [Act.put, List.setIfInBounds_toArray, List.set_cons_zero, List.set_cons_succ]
              refine wpAnyH_take (i := 3) (v := ?_) (by simp only [List.getElem?_toArray, List.getElem?_cons_succ, List.getElem?_cons_zero]; rfl) (by kernel_rfl) (by kernel_rfl) (by kernel_rfl) (by exact fun _ _ _ h => h) (Or.inl ⟨by rfl, ?_⟩) (by assumption) ?_
              rotate_left
              · (intro w hSw; (try clear hHeld); (try dsimp only at hSw); (try go_split_ands); go_simp)
                try with_reducible rfl
              try simp only [Act.put, List.setIfInBounds_toArray, List.set_cons_zero, List.set_cons_succ]
              refine wpAnyH_take (i := 4) (v := ?_) (by simp only [List.getElem?_toArray, List.getElem?_cons_succ, List.getElem?_cons_zero]; rfl) (by kernel_rfl) (by kernel_rfl) (by kernel_rfl) (by exact fun _ _ _ h => h) (Or.inl ⟨by rfl, ?_⟩) (by assumption) ?_
              rotate_left
              · (intro w hSw; (try clear hHeld); (try dsimp only at hSw); (try go_split_ands); go_simp)
                try with_reducible rfl
              try simp only [Act.put, List.setIfInBounds_toArray, List.set_cons_zero, List.set_cons_succ]
              refine wpAnyH_take (i := 5) (v := ?_) (by simp only [List.getElem?_toArray, List.getElem?_cons_succ, List.getElem?_cons_zero]; rfl) (by kernel_rfl) (by kernel_rfl) (by kernel_rfl) (by exact fun _ _ _ h => h) (Or.inl ⟨by rfl, ?_⟩) (by assumption) ?_
              rotate_left
              · (intro w hSw; (try clear hHeld); (try dsimp only at hSw); (try go_split_ands); go_simp)
                try with_reducible rfl
              try simp only [Act.put, List.setIfInBounds_toArray, List.set_cons_zero, List.set_cons_succ]
              refine wpAnyH_take (i := 6) (v := ?_) (by simp only [List.getElem?_toArray, List.getElem?_cons_succ, List.getElem?_cons_zero]; rfl) (by kernel_rfl) (by kernel_rfl) (by kernel_rfl) (by exact fun _ _ _ h => h) (Or.inl ⟨by rfl, ?_⟩) (by assumption) ?_
              rotate_left
              · (intro w hSw; (try clear hHeld); (try dsimp only at hSw); (try go_split_ands); go_simp)
                try with_reducible rfl
              try simp only [Act.put, List.setIfInBounds_toArray, List.set_cons_zero, List.set_cons_succ]
              refine wpAnyH_take (i := 7) (v := ?_) (by simp only [List.getElem?_toArray, List.getElem?_cons_succ, List.getElem?_cons_zero]; rfl) (by kernel_rfl) (by kernel_rfl) (by kernel_rfl) (by exact fun _ _ _ h => h) (Or.inl ⟨by rfl, ?_⟩) (by assumption) ?_
              rotate_left
              · (intro w hSw; (try clear hHeld); (try dsimp only at hSw); (try go_split_ands); go_simp)
                try with_reducible rfl
              try simp only [Act.put, List.setIfInBounds_toArray, List.set_cons_zero, List.set_cons_succ]
              refine wpAnyH_take (i := 8) (v := ?_) (by simp only [List.getElem?_toArray, List.getElem?_cons_succ, List.getElem?_cons_zero]; rfl) (by kernel_rfl) (by kernel_rfl) (by kernel_rfl) (by exact fun _ _ _ h => h) (Or.inl ⟨by rfl, ?_⟩) (by assumption) ?_
              rotate_left
              · (intro w hSw; (try clear hHeld); (try dsimp only at hSw); (try go_split_ands); go_simp)
                try with_reducible rfl
              try simp only [Act.put, List.setIfInBounds_toArray, List.set_cons_zero, List.set_cons_succ]
              refine wpAnyH_take (i := 9) (v := ?_) (by simp only [List.getElem?_toArray, List.getElem?_cons_succ, List.getElem?_cons_zero]; rfl) (by kernel_rfl) (by kernel_rfl) (by kernel_rfl) (by exact fun _ _ _ h => h) (Or.inl ⟨by rfl, ?_⟩) (by assumption) ?_
              rotate_left
              · (intro w hSw; (try clear hHeld); (try dsimp only at hSw); (try go_split_ands); go_simp)
                try with_reducible rfl
              try simp only [Act.put, List.setIfInBounds_toArray, List.set_cons_zero, List.set_cons_succ]
              refine wpAnyH_take (i := 10) (v := ?_) (by simp only [List.getElem?_toArray, List.getElem?_cons_succ, List.getElem?_cons_zero]; rfl) (by kernel_rfl) (by kernel_rfl) (by kernel_rfl) (by exact fun _ _ _ h => h) (Or.inl ⟨by rfl, ?_⟩) (by assumption) ?_
              rotate_left
              · (intro w hSw; (try clear hHeld); (try dsimp only at hSw); (try go_split_ands); go_simp)
                try with_reducible rfl
              try simp only [Act.put, List.setIfInBounds_toArray, List.set_cons_zero, List.set_cons_succ]
              refine wpAnyH_done (by kernel_rfl) ?_ _
              try clear hHeld
              go_wp2_with fail
              go_ret
              exact ⟨.inr ⟨rfl, HS.out⟩, Below.drew HBs.out⟩
          · have hge : ¬ ((j : Int) < m.ents.length) := by omega
            go_wp2_with fail
            go_ret
            refine ⟨.inl ⟨rfl, ?_⟩, HBs.out⟩
            obtain ⟨h1, h2, h3, h4, h5, h6, h7⟩ := HQ.out
            refine ⟨HN.out, h1, h2, h3, h4, h5, h6, ?_⟩
            apply List.ext_getElem?
            intro i
            by_cases hi : i < j
            · exact HE.out i hi
            · rw [List.getElem?_eq_none (by omega), List.getElem?_eq_none (by omega)]
      · have hno : ¬ m.Eqv k := fun h => heq ⟨h.kind, h.good, h.op, h.err, h.leader, h.data, by rw [h.ents]⟩
        have HNO := Lib.hid hno; have HQ := Lib.hid heq
        clear hno heq
        go_wp2_with fail
        all_goals first
          | (go_ret; exact ⟨.inr ⟨rfl, HNO.out⟩, HBr.out⟩)
          | (exfalso
             refine HQ.out ⟨by omega, by assumption, by omega, by assumption, by assumption, toList_inj (by assumption), ?_⟩
             have h := ‹((m.ents.length : Int) != k.ents.length) = false›
             rw [bne_eq_false_iff_eq] at h
             omega)

end Go.Proofs.Ytbapifbahhjfgaa
