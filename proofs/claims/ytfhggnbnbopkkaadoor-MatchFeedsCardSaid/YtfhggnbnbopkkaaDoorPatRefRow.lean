/- The document's row of parts. -/
import Derived.Test.YtfhggnbnbopkkaaDoorPatRefLeaf

namespace Go.Proofs.YtfhggnbnbopkkaaDoor
open Go.RowKit PM
attribute [local go_sem] nodeC

/-- a row of nodes in a block is a node's kids -/
theorem IsT.rowP {W : World} {q : Nat → Prop} {g : Nat} (cap op : Nat) (set : Nat → Bool) (ps : List (T × Value)) (hg : W.heap[g]? = some (.cells (rowC ps).toArray TN (0, 0))) (hq : q g) (hp : ∀ x ∈ ps, IsT W q x.2 x.1) (hcap : ps.length ≤ cap) :
    IsT W q (.slice (some ⟨g, 0, none⟩) ps.length cap) (.mk op set (ps.map (·.1))) := by
  have hks : ∀ i t, (ps.map (·.1))[i]? = some t → ∃ q : T × Value, ps[i]? = some q ∧ q.1 = t := fun i t ht => by
    rw [List.getElem?_map] at ht
    cases hq : ps[i]? with
    | none => rw [hq] at ht; simp at ht
    | some q => rw [hq] at ht; simp at ht; exact ⟨q, by first | exact hq | rfl, ht⟩
  have := IsT.mk (w := W) (p := q) op set (ps.map (·.1)) (some ⟨g, 0, none⟩) cap (fun i => ((ps[i]?).map fun q : T × Value => q.2).getD undef) (fun _ => ⟨g, 0, rfl, hq, lt_of_block hg, fun i t j v ht hv => by
      obtain ⟨q, hq, rfl⟩ := hks i t ht
      rw [hq] at hv
      rw [cell_of_row W g _ _ _ _ hg]
      have := rowC_get ps i q j v hq hv
      simpa using this⟩) (fun i t ht => by
      obtain ⟨q, hq, rfl⟩ := hks i t ht
      rw [hq]
      exact hp q (List.mem_of_getElem? hq)) (by rw [List.length_map]; exact hcap)
  rwa [List.length_map] at this

theorem row_four (s : ByteArray) (b : Nat) (hb : b ≤ s.size) :
    ((s.size : Int) ≤ b ∧ (s.data.toList[b]? = none ∨ s.data.toList[b]? = some 124 ∨ s.data.toList[b]? = some 41)) ∨
    (∃ h : b < s.size, ((s[b].toNat : Int) != 124) = false ∧ (s.data.toList[b]? = none ∨ s.data.toList[b]? = some 124 ∨ s.data.toList[b]? = some 41)) ∨
    (∃ h : b < s.size, ((s[b].toNat : Int) != 124) = true ∧ ((s[b].toNat : Int) != 41) = false ∧ (s.data.toList[b]? = none ∨ s.data.toList[b]? = some 124 ∨ s.data.toList[b]? = some 41)) ∨
    (∃ h : b < s.size, ((s[b].toNat : Int) != 124) = true ∧ ((s[b].toNat : Int) != 41) = true ∧ ¬ (s.data.toList[b]? = none ∨ s.data.toList[b]? = some 124 ∨ s.data.toList[b]? = some 41)) := by
  rcases at_three s b 124 124 rfl hb with ⟨h1, h2, h3⟩ | ⟨hl, h1, h2, h3⟩ | ⟨hl, h1, h2, h3⟩
  · exact .inl ⟨by omega, .inl (List.getElem?_eq_none_iff.2 h1)⟩
  · exact .inr (.inl ⟨hl, h2, .inr (.inl h3)⟩)
  · rcases at_three s b 41 41 rfl hb with ⟨g1, _, _⟩ | ⟨_, _, g2, g3⟩ | ⟨_, _, g2, g3⟩
    · omega
    · exact .inr (.inr (.inl ⟨hl, h2, g2, .inr (.inr g3)⟩))
    · refine .inr (.inr (.inr ⟨hl, h2, g2, fun h => ?_⟩))
      rcases h with h | h | h
      · have := byte_none s b h; omega
      · exact h3 h
      · exact g3 h

theorem next_five (s : ByteArray) (m : Nat) (hm : m ≤ s.size) :
    ((s.size : Int) ≤ m ∧ ¬ s.data.toList[m]? = some 42 ∧ ¬ s.data.toList[m]? = some 43 ∧ ¬ s.data.toList[m]? = some 63) ∨
    (∃ h : m < s.size, ((s[m].toNat : Int) == 42) = true ∧ s.data.toList[m]? = some 42) ∨
    (∃ h : m < s.size, ((s[m].toNat : Int) == 42) = false ∧ ((s[m].toNat : Int) == 43) = true ∧ ¬ s.data.toList[m]? = some 42 ∧ s.data.toList[m]? = some 43) ∨
    (∃ h : m < s.size, ((s[m].toNat : Int) == 42) = false ∧ ((s[m].toNat : Int) == 43) = false ∧ ((s[m].toNat : Int) == 63) = true ∧ ¬ s.data.toList[m]? = some 42 ∧ ¬ s.data.toList[m]? = some 43 ∧ s.data.toList[m]? = some 63) ∨
    (∃ h : m < s.size, ((s[m].toNat : Int) == 42) = false ∧ ((s[m].toNat : Int) == 43) = false ∧ ((s[m].toNat : Int) == 63) = false ∧ ¬ s.data.toList[m]? = some 42 ∧ ¬ s.data.toList[m]? = some 43 ∧ ¬ s.data.toList[m]? = some 63) := by
  have neg : ∀ {x : Int} {n : Int}, (x != n) = true → (x == n) = false := fun h => by simpa using h
  have pos : ∀ {x : Int} {n : Int}, (x != n) = false → (x == n) = true := fun h => by simpa using h
  rcases at_three s m 42 42 rfl hm with ⟨h1, h2, h3⟩ | ⟨hl, h1, h2, h3⟩ | ⟨hl, h1, h2, h3⟩
  · have hn := List.getElem?_eq_none_iff.2 (show s.data.toList.length ≤ m from h1)
    exact .inl ⟨by omega, h3, by rw [hn]; simp, by rw [hn]; simp⟩
  · exact .inr (.inl ⟨hl, pos h2, h3⟩)
  · rcases at_three s m 43 43 rfl hm with ⟨g1, _, _⟩ | ⟨_, _, g2, g3⟩ | ⟨_, _, g2, g3⟩
    · omega
    · exact .inr (.inr (.inl ⟨hl, neg h2, pos g2, h3, g3⟩))
    · rcases at_three s m 63 63 rfl hm with ⟨k1, _, _⟩ | ⟨_, _, k2, k3⟩ | ⟨_, _, k2, k3⟩
      · omega
      · exact .inr (.inr (.inr (.inl ⟨hl, neg h2, neg g2, pos k2, h3, g3, k3⟩)))
      · exact .inr (.inr (.inr (.inr ⟨hl, neg h2, neg g2, neg k2, h3, g3, k3⟩)))

/-- what stands behind a sign's store -/
theorem over_stored {w w1 : World} {v : Value} {ps : List (T × Value)} {y : T} {K : Value} (op : Nat) (h : GS w w1 v ps) (hK : IsT w1 (fun b => w.heap.size + 1 ≤ b ∧ v.ownBlock ≠ some b) K y) :
    ∃ z, z = over op y ∧
      NodAt (((w1.alloc (.cells (nodeC y K).toArray TN)).alloc (.cells (nodeC y K).toArray TN)).setRow w1.heap.size #[.int .i64 op, .int .u64 0, .int .u64 0, .int .u64 0, .int .u64 0, .slice (some ⟨w1.heap.size + 1, 0, none⟩) 1 1]) w1.heap.size z (.slice (some ⟨w1.heap.size + 1, 0, none⟩) 1 1) ∧
      IsT (((w1.alloc (.cells (nodeC y K).toArray TN)).alloc (.cells (nodeC y K).toArray TN)).setRow w1.heap.size #[.int .i64 op, .int .u64 0, .int .u64 0, .int .u64 0, .int .u64 0, .slice (some ⟨w1.heap.size + 1, 0, none⟩) 1 1]) (fun b => w.heap.size + 1 ≤ b ∧ v.ownBlock ≠ some b) (.slice (some ⟨w1.heap.size + 1, 0, none⟩) 1 1) z ∧
      GS w (((w1.alloc (.cells (nodeC y K).toArray TN)).alloc (.cells (nodeC y K).toArray TN)).setRow w1.heap.size #[.int .i64 op, .int .u64 0, .int .u64 0, .int .u64 0, .int .u64 0, .slice (some ⟨w1.heap.size + 1, 0, none⟩) 1 1]) v ps := by
  refine ⟨_, rfl, ?_, ?_, ?_⟩
  all_goals
    have b1 := below_new w1 (.cells (nodeC y K).toArray TN)
    have n1 := heap_alloc_new w1 (.cells (nodeC y K).toArray TN)
    have hs := h.up.size
    have hr := lt_of_block h.res
    obtain ⟨w2, hw2⟩ : ∃ w2, w1.alloc (.cells (nodeC y K).toArray TN) = w2 := ⟨_, rfl⟩
    have s2 : w2.heap.size = w1.heap.size + 1 := by rw [← hw2]; simp
    rw [hw2] at b1 n1 ⊢
    have b2 := below_new w2 (.cells (nodeC y K).toArray TN)
    have n2 := heap_alloc_new w2 (.cells (nodeC y K).toArray TN)
    obtain ⟨w3, hw3⟩ : ∃ w3, w2.alloc (.cells (nodeC y K).toArray TN) = w3 := ⟨_, rfl⟩
    rw [hw3] at b2 n2 ⊢
    rw [s2] at b2 n2
    have n13 := (b2.block _ (by omega)).trans n1
    have b4 := below_rowB w1.heap.size w3 w1.heap.size #[.int .i64 op, .int .u64 0, .int .u64 0, .int .u64 0, .int .u64 0, .slice (some ⟨w1.heap.size + 1, 0, none⟩) 1 1] (Nat.le_refl _)
    have n4 := setRow_heap w3 w1.heap.size _ #[.int .i64 op, .int .u64 0, .int .u64 0, .int .u64 0, .int .u64 0, .slice (some ⟨w1.heap.size + 1, 0, none⟩) 1 1] _ _ n13
    have n24 := (setRow_other w3 w1.heap.size (w1.heap.size + 1) #[.int .i64 op, .int .u64 0, .int .u64 0, .int .u64 0, .int .u64 0, .slice (some ⟨w1.heap.size + 1, 0, none⟩) 1 1] (by omega)).trans n2
    have hall := b1.trans ((b2.mono (by omega)).trans b4)
  · exact ⟨by rw [n4]; simp [over, nodeC, T.op, T.set, word_none]⟩
  · refine IsT.rowP 1 op noSet [(y, K)] (by rw [n24]; rfl) ⟨by omega, fun e => ?_⟩ (fun x hx => ?_) (Nat.le_refl _)
    · have := (h.kids.own.lt _ e).2; omega
    · rw [List.mem_singleton] at hx; subst hx; exact hK.on hall
  · exact h.on hall

set_option maxRecDepth 100000 in
set_option maxHeartbeats 16000000 in
theorem rrow_step (F : Nat) (ih : ∀ f, f < F → RAtomC f) : RRowC F := by
  intro s a w ha hs hF
  obtain ⟨r, hr⟩ : ∃ r, row F s.data.toList a [] = r := ⟨_, rfl⟩
  rw [hr]
  have HR := Lib.hid hr; have IH := Lib.hid ih; have H0 := Lib.hid (gs_start w)
  clear hr ih
  go_enter Tryd.func63, Tryd.ntmps63
  go_wp2_with fail
  change Code.wp _ _ _ _ (w.alloc (.cells zN TN))
  generalize w.alloc (.cells zN TN) = W0 at *
  go_loopg [1, 7] F (fun k v1 v7 wr => ∃ (b : Nat) (ps : List (T × Value)), v1 = .int .i64 b ∧ b ≤ s.size ∧ ps.length ≤ b ∧ 3 * (s.size - b) + 2 ≤ k ∧ k ≤ F ∧ Hid (row k s.data.toList b (ps.map (·.1)) = r) ∧ Hid (GS w wr v7 ps))
  case atStart => exact ⟨a, [], rfl, ha, by simp, hF, Nat.le_refl _, HR, H0⟩
  case round =>
    clear H0 HR ha hF
    obtain ⟨b, ps, rfl, hbs, hpl, hk1, hk2, HR, HG⟩ := hrel
    obtain ⟨k, rfl⟩ : ∃ k, gk = k + 1 := ⟨gk - 1, by omega⟩
    have hr := HR.out
    simp only [row] at hr
    have HR1 := Lib.hid hr
    have hbi : (b : Int) ≤ 100000 := by omega
    have hbi0 : (0 : Int) ≤ b := by omega
    clear hr HR
    rcases row_four s b hbs with ⟨h1, h3⟩ | ⟨hl, h1, h3⟩ | ⟨hl, h1, h2, h3⟩ | ⟨hl, h1, h2, h3⟩
    case inr.inr.inr =>
      have hr := HR1.out
      rw [if_neg h3] at hr
      have HR2 := Lib.hid hr
      have hli : (b : Int) < s.size := by omega
      clear hr h3 HR1
      go_wp2_with fail
      refine (IH.out k (by omega) s b wr hl hs (by omega)).mono ?_
      rintro e w1 hm
      have hr := HR2.out
      rcases hat : atom k s.data.toList b with ⟨y, m⟩ | ⟨k'⟩
      case bad =>
        rw [hat] at hm hr
        obtain ⟨rfl, hb⟩ := hm
        subst hr
        have HG1 := Lib.hid ((HG.out.on hb).on (below_new w1 (.cells zN TN)))
        clear hb HG HR2 hat h1 h2
        simp only [zN] at HG1 ⊢
        go_wp2_with (refine wpList_store_row rfl TN (.tmp 4) (.tmp 37) rfl w.heap.size zN rfl rfl TN zN HG1.out.res (by kernel_rfl) rfl (by simp [zN, Value.oneCell']) ?_)
        exact bodyPost_ret (v := .tuple #[.agg zN, .int .i64 k', .bool false]) (results_rtt rfl _ _ w.heap.size _ _ _ rfl rfl rfl (load_node _ _ zN (setRow_heap _ _ _ _ _ _ HG1.out.res) rfl)) rfl (refIs_bad rfl (HG1.out.bad _))
      case ok =>
      rw [hat] at hm hr
      obtain ⟨K, rfl, hK, hb⟩ := hm
      obtain ⟨A, c, rfl⟩ := hK.slice
      obtain ⟨hbm, hms⟩ := (read_pos s.data.toList k).2.2 _ _ _ hat
      have hml : m ≤ s.size := hms
      have HG1 := Lib.hid (HG.out.on hb)
      simp only [] at hr
      have HR3 := Lib.hid hr
      have hsz : w.heap.size + 1 ≤ wr.heap.size := lt_of_block HG.out.res
      have HK := Lib.hid (HG.out.kids.far hsz hK)
      have hmi : (m : Int) ≤ 100000 := by omega
      have hmi0 : (0 : Int) ≤ m := by omega
      clear hb hK HG hr HR2 hat hms hsz h1 h2
      simp only [nodeV]
      rcases next_five s m hml with ⟨h1, n1, n2, n3⟩ | ⟨hl2, h1, n1⟩ | ⟨hl2, h1, h2, n1, n2⟩ | ⟨hl2, h1, h2, h4, n1, n2, n3⟩ | ⟨hl2, h1, h2, h4, n1, n2, n3⟩
      · have hr := HR3.out
        rw [if_neg n1, if_neg n2, if_neg n3] at hr
        obtain ⟨qs, hqs⟩ : ∃ qs, ps ++ [(y, Value.slice A y.kids.length c)] = qs := ⟨_, rfl⟩
        have hpl2 : qs.length ≤ m := by rw [← hqs]; simp; omega
        have HR4 := Lib.hid (show row k s.data.toList m (qs.map (·.1)) = r by rw [← hqs]; simpa using hr)
        have HQS := Lib.hid hqs
        clear hr HR3 n1 n2 n3 hqs
        go_upto_region 6 with (fail)
        have hN := NodAt.made w1 y (.slice A y.kids.length c)
        have hAB := below_new w1 (.cells #[.int .i64 y.op, .int .u64 (word y.set 0), .int .u64 (word y.set 1), .int .u64 (word y.set 2), .int .u64 (word y.set 3), .slice A y.kids.length c] TN)
        have HG2 := Lib.hid (HG1.out.on hAB)
        have HK2 := Lib.hid (HK.out.on hAB)
        obtain ⟨k0, k1, k2, k3, k4, k5⟩ := hN.cells
        clear hN hAB HG1 HK
        generalize w1.alloc (.cells #[.int .i64 y.op, .int .u64 (word y.set 0), .int .u64 (word y.set 1), .int .u64 (word y.set 2), .int .u64 (word y.set 3), .slice A y.kids.length c] TN) = w2 at *
        generalize w1.heap.size = B8 at *
        have hszw : w.heap.size + 1 ≤ w2.heap.size := lt_of_block HG2.out.res
        go_wp2_with (refine wpList_append_node rfl (.tmp 61) (.tmp 63) rfl (w.heap.size + 1) _ ps rfl HG2.out.kids y (.slice A y.kids.length c) _ rfl rfl HK2.out (by omega) hszw ?_; intro v' w5 hk hb hsz5; have HG3 := Lib.hid (HG2.out.app hk hb); rw [HQS.out] at HG3; clear k0 k1 k2 k3 k4 k5 hk hb hsz5 HK2 HG2 HQS)
        go_roundg k
        case measure => omega
        case rel => exact ⟨m, qs, by go_num, by omega, hpl2, by omega, by omega, HR4, HG3⟩
      · have hr := HR3.out
        rw [if_pos n1] at hr
        have hli2 : (m : Int) < s.size := by omega
        have HRs := Lib.hid hr
        clear hr HR3 n1
        go_upto_region 17 with (fail)
        obtain ⟨z, hz, hN, hI, hG⟩ := over_stored 5 HG1.out HK.out
        have HZ := Lib.hid hz; have HN := Lib.hid hN; have HI := Lib.hid hI; have HG2 := Lib.hid hG
        clear hz hN hI hG
        have hN0 := NodAt.made w1 y (.slice A y.kids.length c)
        have HN0 := Lib.hid hN0
        obtain ⟨k0, k1, k2, k3, k4, k5⟩ := hN0.cells
        have hbn := (below_new (w1.alloc (.cells #[.int .i64 y.op, .int .u64 (word y.set 0), .int .u64 (word y.set 1), .int .u64 (word y.set 2), .int .u64 (word y.set 3), .slice A y.kids.length c] TN)) (.cells #[.int .i64 y.op, .int .u64 (word y.set 0), .int .u64 (word y.set 1), .int .u64 (word y.set 2), .int .u64 (word y.set 3), .slice A y.kids.length c] TN)).block _ (lt_of_block hN0.node)
        have HN1 := Lib.hid (hbn.trans hN0.node)
        clear hN0 hbn
        go_upto_region 18 with (refine wpList_store_row rfl TN (.tmp 8) (.tmp 58) rfl w1.heap.size #[.int .i64 5, .int .u64 0, .int .u64 0, .int .u64 0, .int .u64 0, .slice (some ⟨w1.heap.size + 1, 0, none⟩) 1 1] rfl rfl TN _ HN1.out (by kernel_rfl) rfl (by simp [Value.oneCell']) ?_)
        clear k0 k1 k2 k3 k4 k5 HN0 HN1
        change Code.wp _ _ _ _ (((w1.alloc (.cells (nodeC y (.slice A y.kids.length c)).toArray TN)).alloc (.cells (nodeC y (.slice A y.kids.length c)).toArray TN)).setRow w1.heap.size #[.int .i64 5, .int .u64 0, .int .u64 0, .int .u64 0, .int .u64 0, .slice (some ⟨w1.heap.size + 1, 0, none⟩) 1 1])
        generalize ((w1.alloc (.cells (nodeC y (.slice A y.kids.length c)).toArray TN)).alloc (.cells (nodeC y (.slice A y.kids.length c)).toArray TN)).setRow w1.heap.size #[.int .i64 5, .int .u64 0, .int .u64 0, .int .u64 0, .int .u64 0, .slice (some ⟨w1.heap.size + 1, 0, none⟩) 1 1] = w2 at *
        obtain ⟨qs, hqs⟩ : ∃ qs, ps ++ [(z, Value.slice (some ⟨w1.heap.size + 1, 0, none⟩) 1 1)] = qs := ⟨_, rfl⟩
        have hpl2 : qs.length ≤ m := by rw [← hqs]; simp; omega
        have HR4 := Lib.hid (show row k s.data.toList (m + 1) (qs.map (·.1)) = r by rw [← hqs, List.map_append, List.map_cons, List.map_nil, HZ.out]; exact HRs.out)
        have HQS := Lib.hid hqs
        obtain ⟨k0, k1, k2, k3, k4, k5⟩ := HN.out.cells
        have hszw : w.heap.size + 1 ≤ w2.heap.size := lt_of_block HG2.out.res
        clear hqs HRs HZ HG1 HK
        go_wp2_with (refine wpList_append_node rfl (.tmp 61) (.tmp 63) rfl (w.heap.size + 1) _ ps rfl HG2.out.kids z (.slice (some ⟨w1.heap.size + 1, 0, none⟩) 1 1) _ rfl rfl HI.out (by omega) hszw ?_; intro v' w5 hk hb hsz5; have HG3 := Lib.hid (HG2.out.app hk hb); rw [HQS.out] at HG3; clear k0 k1 k2 k3 k4 k5 hk hb hsz5 HI HG2 HQS)
        go_roundg k
        case measure => omega
        case rel => exact ⟨m + 1, qs, by go_num, by omega, by omega, by omega, by omega, HR4, HG3⟩
      · have hr := HR3.out
        rw [if_neg n1, if_pos n2] at hr
        have hli2 : (m : Int) < s.size := by omega
        have HRs := Lib.hid hr
        clear hr HR3 n1 n2
        go_upto_region 17 with (fail)
        obtain ⟨z, hz, hN, hI, hG⟩ := over_stored 6 HG1.out HK.out
        have HZ := Lib.hid hz; have HN := Lib.hid hN; have HI := Lib.hid hI; have HG2 := Lib.hid hG
        clear hz hN hI hG
        have hN0 := NodAt.made w1 y (.slice A y.kids.length c)
        have HN0 := Lib.hid hN0
        obtain ⟨k0, k1, k2, k3, k4, k5⟩ := hN0.cells
        have hbn := (below_new (w1.alloc (.cells #[.int .i64 y.op, .int .u64 (word y.set 0), .int .u64 (word y.set 1), .int .u64 (word y.set 2), .int .u64 (word y.set 3), .slice A y.kids.length c] TN)) (.cells #[.int .i64 y.op, .int .u64 (word y.set 0), .int .u64 (word y.set 1), .int .u64 (word y.set 2), .int .u64 (word y.set 3), .slice A y.kids.length c] TN)).block _ (lt_of_block hN0.node)
        have HN1 := Lib.hid (hbn.trans hN0.node)
        clear hN0 hbn
        go_upto_region 18 with (refine wpList_store_row rfl TN (.tmp 8) (.tmp 58) rfl w1.heap.size #[.int .i64 6, .int .u64 0, .int .u64 0, .int .u64 0, .int .u64 0, .slice (some ⟨w1.heap.size + 1, 0, none⟩) 1 1] rfl rfl TN _ HN1.out (by kernel_rfl) rfl (by simp [Value.oneCell']) ?_)
        clear k0 k1 k2 k3 k4 k5 HN0 HN1
        change Code.wp _ _ _ _ (((w1.alloc (.cells (nodeC y (.slice A y.kids.length c)).toArray TN)).alloc (.cells (nodeC y (.slice A y.kids.length c)).toArray TN)).setRow w1.heap.size #[.int .i64 6, .int .u64 0, .int .u64 0, .int .u64 0, .int .u64 0, .slice (some ⟨w1.heap.size + 1, 0, none⟩) 1 1])
        generalize ((w1.alloc (.cells (nodeC y (.slice A y.kids.length c)).toArray TN)).alloc (.cells (nodeC y (.slice A y.kids.length c)).toArray TN)).setRow w1.heap.size #[.int .i64 6, .int .u64 0, .int .u64 0, .int .u64 0, .int .u64 0, .slice (some ⟨w1.heap.size + 1, 0, none⟩) 1 1] = w2 at *
        obtain ⟨qs, hqs⟩ : ∃ qs, ps ++ [(z, Value.slice (some ⟨w1.heap.size + 1, 0, none⟩) 1 1)] = qs := ⟨_, rfl⟩
        have hpl2 : qs.length ≤ m := by rw [← hqs]; simp; omega
        have HR4 := Lib.hid (show row k s.data.toList (m + 1) (qs.map (·.1)) = r by rw [← hqs, List.map_append, List.map_cons, List.map_nil, HZ.out]; exact HRs.out)
        have HQS := Lib.hid hqs
        obtain ⟨k0, k1, k2, k3, k4, k5⟩ := HN.out.cells
        have hszw : w.heap.size + 1 ≤ w2.heap.size := lt_of_block HG2.out.res
        clear hqs HRs HZ HG1 HK
        go_wp2_with (refine wpList_append_node rfl (.tmp 61) (.tmp 63) rfl (w.heap.size + 1) _ ps rfl HG2.out.kids z (.slice (some ⟨w1.heap.size + 1, 0, none⟩) 1 1) _ rfl rfl HI.out (by omega) hszw ?_; intro v' w5 hk hb hsz5; have HG3 := Lib.hid (HG2.out.app hk hb); rw [HQS.out] at HG3; clear k0 k1 k2 k3 k4 k5 hk hb hsz5 HI HG2 HQS)
        go_roundg k
        case measure => omega
        case rel => exact ⟨m + 1, qs, by go_num, by omega, by omega, by omega, by omega, HR4, HG3⟩
      · have hr := HR3.out
        rw [if_neg n1, if_neg n2, if_pos n3] at hr
        have hli2 : (m : Int) < s.size := by omega
        have HRs := Lib.hid hr
        clear hr HR3 n1 n2 n3
        go_upto_region 17 with (fail)
        obtain ⟨z, hz, hN, hI, hG⟩ := over_stored 7 HG1.out HK.out
        have HZ := Lib.hid hz; have HN := Lib.hid hN; have HI := Lib.hid hI; have HG2 := Lib.hid hG
        clear hz hN hI hG
        have hN0 := NodAt.made w1 y (.slice A y.kids.length c)
        have HN0 := Lib.hid hN0
        obtain ⟨k0, k1, k2, k3, k4, k5⟩ := hN0.cells
        have hbn := (below_new (w1.alloc (.cells #[.int .i64 y.op, .int .u64 (word y.set 0), .int .u64 (word y.set 1), .int .u64 (word y.set 2), .int .u64 (word y.set 3), .slice A y.kids.length c] TN)) (.cells #[.int .i64 y.op, .int .u64 (word y.set 0), .int .u64 (word y.set 1), .int .u64 (word y.set 2), .int .u64 (word y.set 3), .slice A y.kids.length c] TN)).block _ (lt_of_block hN0.node)
        have HN1 := Lib.hid (hbn.trans hN0.node)
        clear hN0 hbn
        go_upto_region 18 with (refine wpList_store_row rfl TN (.tmp 8) (.tmp 58) rfl w1.heap.size #[.int .i64 7, .int .u64 0, .int .u64 0, .int .u64 0, .int .u64 0, .slice (some ⟨w1.heap.size + 1, 0, none⟩) 1 1] rfl rfl TN _ HN1.out (by kernel_rfl) rfl (by simp [Value.oneCell']) ?_)
        clear k0 k1 k2 k3 k4 k5 HN0 HN1
        change Code.wp _ _ _ _ (((w1.alloc (.cells (nodeC y (.slice A y.kids.length c)).toArray TN)).alloc (.cells (nodeC y (.slice A y.kids.length c)).toArray TN)).setRow w1.heap.size #[.int .i64 7, .int .u64 0, .int .u64 0, .int .u64 0, .int .u64 0, .slice (some ⟨w1.heap.size + 1, 0, none⟩) 1 1])
        generalize ((w1.alloc (.cells (nodeC y (.slice A y.kids.length c)).toArray TN)).alloc (.cells (nodeC y (.slice A y.kids.length c)).toArray TN)).setRow w1.heap.size #[.int .i64 7, .int .u64 0, .int .u64 0, .int .u64 0, .int .u64 0, .slice (some ⟨w1.heap.size + 1, 0, none⟩) 1 1] = w2 at *
        obtain ⟨qs, hqs⟩ : ∃ qs, ps ++ [(z, Value.slice (some ⟨w1.heap.size + 1, 0, none⟩) 1 1)] = qs := ⟨_, rfl⟩
        have hpl2 : qs.length ≤ m := by rw [← hqs]; simp; omega
        have HR4 := Lib.hid (show row k s.data.toList (m + 1) (qs.map (·.1)) = r by rw [← hqs, List.map_append, List.map_cons, List.map_nil, HZ.out]; exact HRs.out)
        have HQS := Lib.hid hqs
        obtain ⟨k0, k1, k2, k3, k4, k5⟩ := HN.out.cells
        have hszw : w.heap.size + 1 ≤ w2.heap.size := lt_of_block HG2.out.res
        clear hqs HRs HZ HG1 HK
        go_wp2_with (refine wpList_append_node rfl (.tmp 61) (.tmp 63) rfl (w.heap.size + 1) _ ps rfl HG2.out.kids z (.slice (some ⟨w1.heap.size + 1, 0, none⟩) 1 1) _ rfl rfl HI.out (by omega) hszw ?_; intro v' w5 hk hb hsz5; have HG3 := Lib.hid (HG2.out.app hk hb); rw [HQS.out] at HG3; clear k0 k1 k2 k3 k4 k5 hk hb hsz5 HI HG2 HQS)
        go_roundg k
        case measure => omega
        case rel => exact ⟨m + 1, qs, by go_num, by omega, by omega, by omega, by omega, HR4, HG3⟩
      · have hr := HR3.out
        rw [if_neg n1, if_neg n2, if_neg n3] at hr
        obtain ⟨qs, hqs⟩ : ∃ qs, ps ++ [(y, Value.slice A y.kids.length c)] = qs := ⟨_, rfl⟩
        have hpl2 : qs.length ≤ m := by rw [← hqs]; simp; omega
        have HR4 := Lib.hid (show row k s.data.toList m (qs.map (·.1)) = r by rw [← hqs]; simpa using hr)
        have HQS := Lib.hid hqs
        have hli2 : (m : Int) < s.size := by omega
        clear hr HR3 n1 n2 n3 hqs
        go_upto_region 6 with (fail)
        have hN := NodAt.made w1 y (.slice A y.kids.length c)
        have hAB := below_new w1 (.cells #[.int .i64 y.op, .int .u64 (word y.set 0), .int .u64 (word y.set 1), .int .u64 (word y.set 2), .int .u64 (word y.set 3), .slice A y.kids.length c] TN)
        have HG2 := Lib.hid (HG1.out.on hAB)
        have HK2 := Lib.hid (HK.out.on hAB)
        obtain ⟨k0, k1, k2, k3, k4, k5⟩ := hN.cells
        clear hN hAB HG1 HK
        generalize w1.alloc (.cells #[.int .i64 y.op, .int .u64 (word y.set 0), .int .u64 (word y.set 1), .int .u64 (word y.set 2), .int .u64 (word y.set 3), .slice A y.kids.length c] TN) = w2 at *
        generalize w1.heap.size = B8 at *
        have hszw : w.heap.size + 1 ≤ w2.heap.size := lt_of_block HG2.out.res
        go_wp2_with (refine wpList_append_node rfl (.tmp 61) (.tmp 63) rfl (w.heap.size + 1) _ ps rfl HG2.out.kids y (.slice A y.kids.length c) _ rfl rfl HK2.out (by omega) hszw ?_; intro v' w5 hk hb hsz5; have HG3 := Lib.hid (HG2.out.app hk hb); rw [HQS.out] at HG3; clear k0 k1 k2 k3 k4 k5 hk hb hsz5 HK2 HG2 HQS)
        go_roundg k
        case measure => omega
        case rel => exact ⟨m, qs, by go_num, by omega, hpl2, by omega, by omega, HR4, HG3⟩
    all_goals
      have hr := HR1.out
      rw [if_pos h3] at hr
      obtain ⟨t, ht⟩ : ∃ t, joined 3 (ps.map (·.1)) = t := ⟨_, rfl⟩
      have hJ := rover_any 3 (w.heap.size + 1) _ ps wr HG.out.kids (by omega)
      rw [ht] at hJ hr
      have HRE := Lib.hid hr; have HJ := Lib.hid hJ
      try have hli : (b : Int) < s.size := by omega
      clear hr ht h3 HR1 hJ
      go_wp2_with fail
      refine HJ.out.mono ?_
      rintro e w6 ⟨K3, rfl, hK3, hb3⟩
      have HG4 := Lib.hid (HG.out.on hb3)
      have HD := Lib.hid (HG4.out.put hK3 (nodeC t K3).toArray)
      have HA := Lib.hid (node_all hK3)
      clear hK3 hb3 HG HJ
      go_wp2_with (refine wpList_store_row rfl TN (.tmp 4) (.tmp 66) rfl w.heap.size (nodeC t K3).toArray rfl rfl TN zN HG4.out.res (by kernel_rfl) rfl HA.out ?_)
      exact bodyPost_ret (v := .tuple #[.agg (nodeC t K3).toArray, .int .i64 b, .bool true]) (results_rtt rfl _ _ w.heap.size _ _ _ rfl rfl rfl (load_node _ _ _ (setRow_heap _ _ _ _ _ _ HG4.out.res) rfl)) rfl (by rw [← HRE.out]; exact refIs_ok rfl HD.out.1 HD.out.2)
end Go.Proofs.YtfhggnbnbopkkaaDoor

namespace Go.Proofs.YtfhggnbnbopkkaaDoor
open Go.RowKit PM
attribute [local go_sem] nodeC

theorem results_rt {fn : Func} {p1 p2 : Tmp} {t1 : TypeId} (h : fn.results = #[.cell p1 t1, .tmp p2]) (tmps : Array Value) (W : World) (b : Nat) (X Y : Value)
    (h1 : tmps.getD p1 undef = .pointer (some ⟨b, 0, none⟩)) (h2 : tmps.getD p2 undef = Y) (l1 : (loadVar t1 ⟨b, 0, none⟩).run Tryd.prog W = .ok X W) :
    (results fn tmps).run Tryd.prog W = .ok (.tuple #[X, Y]) W := by
  have h1' : tmps[p1]?.getD undef = .pointer (some ⟨b, 0, none⟩) := by simpa using h1
  have h2' : tmps[p2]?.getD undef = Y := by simpa using h2
  simp [results, h, h1', h2', asAddr, l1]

set_option maxRecDepth 100000 in
set_option maxHeartbeats 8000000 in
theorem rliteral_any (s : ByteArray) (w : World) (hs : s.size ≤ 100000) :
    Calls Tryd.prog 44 #[.string s] w (NodeIs w (joined 3 (s.data.toList.map fun c => one c.toNat))) := by
  have H0 := Lib.hid (gs_start w)
  obtain ⟨t, ht⟩ : ∃ t, joined 3 (s.data.toList.map fun c => one c.toNat) = t := ⟨_, rfl⟩
  rw [ht]
  have HT := Lib.hid ht
  clear ht
  go_enter Tryd.func44, Tryd.ntmps44
  go_wp2_with fail
  change Code.wp _ _ _ _ (w.alloc (.cells zN TN))
  generalize w.alloc (.cells zN TN) = W0 at *
  go_loopg [3, 4] (s.size + 1) (fun k v3 v4 wr => ∃ (i : Nat) (ps : List (T × Value)), v4 = .int .i64 i ∧ i ≤ s.size ∧ s.size + 1 - i ≤ k ∧ ps.length ≤ i ∧ Hid (ps.map (·.1) = (s.data.toList.take i).map fun c => one c.toNat) ∧ Hid (GS w wr v3 ps))
  case atStart => exact ⟨0, [], rfl, by omega, by omega, by simp, Lib.hid (by simp), H0⟩
  case round =>
    clear H0
    obtain ⟨i, ps, rfl, hil, hik, hpl, HP, HG⟩ := hrel
    have hlt : w.heap.size + 1 ≤ wr.heap.size := lt_of_block HG.out.res
    by_cases hi : i < s.size
    · have hi2 : (i : Int) < s.size := by omega
      have hi0 : (0 : Int) ≤ i := by omega
      have HP2 : Hid (ps.map (·.1) ++ [one s[i].toNat] = (s.data.toList.take (i + 1)).map fun c => one c.toNat) := Lib.hid (by
        rw [HP.out, List.take_succ_eq_append_getElem (show i < s.data.toList.length from hi), List.map_append]; rfl)
      go_wp2_with fail
      refine (rone_any s[i].toNat s[i].toNat_lt wr).mono ?_
      rintro e w2 ⟨rfl, hb⟩
      have HGX := Lib.hid (HG.out.on hb)
      have HIS := Lib.hid (HG.out.kids.far hlt (show IsT w2 (fun b => wr.heap.size ≤ b) (.slice none 0 0) (one s[i].toNat) from IsT.nil _ _))
      clear hb HG hlt HP
      simp only [nodeV]
      go_wp2_with (refine wpList_append_node rfl (.tmp 11) (.tmp 16) rfl (w.heap.size + 1) _ ps rfl HGX.out.kids (one s[i].toNat) (.slice none 0 0) _ rfl rfl HIS.out (by omega) (lt_of_block HGX.out.res) ?_; intro v' w9 hk9 hb9 hsz9; have HG9 := Lib.hid (HGX.out.app hk9 hb9); clear hk9 hb9 hsz9)
      go_roundg (gk - 1)
      case measure => omega
      case rel => exact ⟨i + 1, ps ++ [(one s[i].toNat, .slice none 0 0)], by go_num, by omega, by omega, by simp; omega, Lib.hid (by rw [List.map_append]; exact HP2.out), HG9⟩
    · obtain rfl : i = s.size := by omega
      have hex : ¬ ((s.size : Int) < s.size) := by omega
      have hp := HP.out
      rw [List.take_of_length_le (show s.data.toList.length ≤ s.size from Nat.le_refl _)] at hp
      have hJ := rover_any 3 (w.heap.size + 1) _ ps wr HG.out.kids (by omega)
      rw [hp, HT.out] at hJ
      have HJ := Lib.hid hJ
      clear hJ hp HP
      go_wp2_with fail
      refine HJ.out.mono ?_
      rintro e w6 ⟨K3, rfl, hK3, hb3⟩
      have HG4 := Lib.hid (HG.out.on hb3)
      have HD := Lib.hid (HG4.out.put hK3 (nodeC t K3).toArray)
      have HA := Lib.hid (node_all hK3)
      clear hK3 hb3 HG HJ
      go_wp2_with (refine wpList_store_row rfl TN (.tmp 2) (.tmp 19) rfl w.heap.size (nodeC t K3).toArray rfl rfl TN zN HG4.out.res (by kernel_rfl) rfl HA.out ?_)
      exact bodyPost_ret (results_cell_row rfl _ _ w.heap.size TN (nodeC t K3).toArray (0, 0) _ rfl (setRow_heap _ _ _ _ _ _ HG4.out.res) Tryd.underlying66 rfl (by kernel_rfl)) rfl ⟨K3, rfl, HD.out.1, HD.out.2⟩

/-- what the document's glob tells -/
def RGlobIs (w : World) (r : Option (List T)) (e : Ending) (w' : World) : Prop :=
  match r with
  | some l => ∃ K, e = .returned (.tuple #[nodeV (joined 3 l) K, .bool true]) ∧ IsT w' (fun b => w.heap.size ≤ b) K (joined 3 l) ∧ Below w.heap.size w w'
  | none => e = .returned (.tuple #[.agg zN, .bool false]) ∧ Below w.heap.size w w'
theorem rglobIs_bad {w w' : World} {e : Ending} (h : e = .returned (.tuple #[.agg zN, .bool false])) (hb : Below w.heap.size w w') : RGlobIs w none e w' := ⟨h, hb⟩
theorem rglobIs_ok {w w' : World} {l : List T} {K : Value} {e : Ending} (h : e = .returned (.tuple #[nodeV (joined 3 l) K, .bool true])) (h1 : IsT w' (fun b => w.heap.size ≤ b) K (joined 3 l)) (hb : Below w.heap.size w w') : RGlobIs w (some l) e w' := ⟨K, h, h1, hb⟩

set_option maxRecDepth 100000 in
set_option maxHeartbeats 8000000 in
theorem rglob_any (s : ByteArray) (w : World) (hs : s.size ≤ 100000) :
    Calls Tryd.prog 45 #[.string s] w (RGlobIs w (globL s.data.toList)) := by
  obtain ⟨r, hr⟩ : ∃ r, globL s.data.toList = r := ⟨_, rfl⟩
  rw [hr]
  have hr0 : globR ([] : List T) (s.data.toList.drop 0) = r := by rw [List.drop_zero, ← hr]; unfold globR; cases globL s.data.toList <;> rfl
  have HR := Lib.hid hr0; have HG := Lib.hid (gs_start w)
  clear hr hr0
  go_enter Tryd.func45, Tryd.ntmps45
  go_wp2_with fail
  change Code.wp _ _ _ _ (w.alloc (.cells zN TN))
  generalize w.alloc (.cells zN TN) = W0 at *
  go_loopg [4, 5] (s.size + 1) (fun k v3 v4 wr => ∃ (i : Nat) (ps : List (T × Value)), v4 = .int .i64 i ∧ i ≤ s.size ∧ s.size + 1 - i ≤ k ∧ ps.length ≤ i ∧ Hid (globR (ps.map (·.1)) (s.data.toList.drop i) = r) ∧ Hid (GS w wr v3 ps))
  case atStart => exact ⟨0, [], rfl, by omega, by omega, by simp, HR, HG⟩
  case round =>
    clear HR HG
    obtain ⟨i, ps, rfl, hil, hik, hpl, HR, HG⟩ := hrel
    have hlt : w.heap.size + 1 ≤ wr.heap.size := lt_of_block HG.out.res
    by_cases hi : i < s.size
    · have hi2 : (i : Int) < s.size := by omega
      have hi0 : (0 : Int) ≤ i := by omega
      have hr := HR.out
      rw [drop_at s i hi] at hr
      by_cases e92 : s[i].toNat = 92
      · have j92 : ((s[i].toNat : Int) == 92) = true := by rw [e92]; rfl
        have hc : s[i] = 92 := u8_eq e92
        rw [hc] at hr
        by_cases hi1 : i + 1 = s.size
        · rw [drop_end s (i + 1) (by omega), globR_bad] at hr
          subst hr
          have j1 : ((i : Int) + 1 == (s.size : Int)) = true := by rw [beq_iff_eq]; omega
          clear HR hlt e92 hc hi1
          go_wp2_with (refine wpList_store_row rfl TN (.tmp 2) (.tmp 23) rfl w.heap.size zN rfl rfl TN zN HG.out.res (by kernel_rfl) rfl (by simp [zN, Value.oneCell']) ?_)
          exact bodyPost_ret (v := .tuple #[.agg zN, .bool false]) (results_rt rfl _ _ w.heap.size _ _ rfl rfl (load_node _ _ zN (setRow_heap _ _ _ _ _ _ HG.out.res) rfl)) rfl (rglobIs_bad rfl (HG.out.bad _))
        · have hi3 : i + 1 < s.size := by omega
          have j1 : ((i : Int) + 1 == (s.size : Int)) = false := by rw [beq_eq_false_iff_ne]; omega
          rw [drop_at s (i + 1) hi3, globR_sign] at hr
          have HR2 := Lib.hid (show globR (ps.map (·.1) ++ [one s[i + 1].toNat]) (s.data.toList.drop (i + 1 + 1)) = r from hr)
          have hi4 : (i : Int) + 1 < s.size := by omega
          have hi5 : (0 : Int) ≤ (i : Int) + 1 := by omega
          clear hr HR hc e92 hi1
          go_wp2_with fail
          refine (rone_any s[i + 1].toNat s[i + 1].toNat_lt wr).mono ?_
          rintro e w2 ⟨rfl, hb⟩
          have HGX := Lib.hid (HG.out.on hb)
          have HIS := Lib.hid (HG.out.kids.far hlt (show IsT w2 (fun b => wr.heap.size ≤ b) (.slice none 0 0) (one s[i + 1].toNat) from IsT.nil _ _))
          clear hb HG j92 j1 hlt
          simp only [nodeV]
          go_wp2_with (refine wpList_append_node rfl (.tmp 36) (.tmp 42) rfl (w.heap.size + 1) _ ps rfl HGX.out.kids (one s[i + 1].toNat) (.slice none 0 0) _ rfl rfl HIS.out (by omega) (lt_of_block HGX.out.res) ?_; intro v' w9 hk9 hb9 hsz9; have HG9 := Lib.hid (HGX.out.app hk9 hb9); clear hk9 hb9 hsz9)
          go_roundg (gk - 1)
          case measure => omega
          case rel => exact ⟨i + 1 + 1, ps ++ [(one s[i + 1].toNat, .slice none 0 0)], by go_num, by omega, by omega, by simp; omega, Lib.hid (by rw [List.map_append]; exact HR2.out), HG9⟩
      have j92 : ((s[i].toNat : Int) == 92) = false := by rw [beq_eq_false_iff_ne]; omega
      have n92 : s[i] ≠ 92 := fun h => e92 (by rw [h]; rfl)
      by_cases e42 : s[i].toNat = 42
      · have j42 : ((s[i].toNat : Int) == 42) = true := by rw [e42]; rfl
        have hc : s[i] = 42 := u8_eq e42
        rw [hc, globR_cons _ _ _ (by decide)] at hr
        have HR2 := Lib.hid (show globR (ps.map (·.1) ++ [over 5 every]) (s.data.toList.drop (i + 1)) = r from hr)
        clear hr HR hc e42 e92 n92
        go_wp2_with fail
        refine (rall_any wr).mono ?_
        rintro e w2 ⟨rfl, hb⟩
        have HG2 := Lib.hid (HG.out.on hb)
        have hIS := IsT.over (show IsT w2 (fun b => wr.heap.size ≤ b) (.slice none 0 0) every from IsT.nil _ _) hb.size 5
        have HIS := Lib.hid (HG.out.kids.far hlt hIS)
        have HGX := Lib.hid (HG2.out.on (below_new w2 (.cells (nodeC every (.slice none 0 0)).toArray TN)))
        have HSZ : Hid ((w2.alloc (.cells (nodeC every (.slice none 0 0)).toArray TN)).heap.size = w2.heap.size + 1) := Lib.hid (by simp)
        clear hIS hb HG HG2 j42 j92 hlt
        simp only [nodeV]
        go_wp2_with (refine wpList_append_node' #[.int .i64 5, .int .u64 0, .int .u64 0, .int .u64 0, .int .u64 0, .slice (some ⟨w2.heap.size, 0, none⟩) 1 1] rfl (.tmp 51) (.tmp 55) rfl (w.heap.size + 1) _ ps rfl HGX.out.kids (over 5 every) (.slice (some ⟨w2.heap.size, 0, none⟩) 1 1) (by have := nodeV_op 5 [every] (.slice (some ⟨w2.heap.size, 0, none⟩) 1 1); unfold nodeV at this; injection this) _ HSZ.out rfl HIS.out (by omega) (lt_of_block HGX.out.res) ?_; intro v' w9 hk9 hb9 hsz9; have HG9 := Lib.hid (HGX.out.app hk9 hb9); clear hk9 hb9 hsz9)
        go_roundg (gk - 1)
        case measure => omega
        case rel => exact ⟨i + 1, ps ++ [(over 5 every, .slice (some ⟨w2.heap.size, 0, none⟩) 1 1)], by go_num, by omega, by omega, by simp; omega, Lib.hid (by rw [List.map_append]; exact HR2.out), HG9⟩
      have j42 : ((s[i].toNat : Int) == 42) = false := by rw [beq_eq_false_iff_ne]; omega
      have n42 : s[i] ≠ 42 := fun h => e42 (by rw [h]; rfl)
      by_cases e63 : s[i].toNat = 63
      · have j63 : ((s[i].toNat : Int) == 63) = true := by rw [e63]; rfl
        have hc : s[i] = 63 := u8_eq e63
        rw [hc, globR_cons _ _ _ (by decide)] at hr
        have HR2 := Lib.hid (show globR (ps.map (·.1) ++ [every]) (s.data.toList.drop (i + 1)) = r from hr)
        clear hr HR hc e63 n42 e42 e92 n92
        go_wp2_with fail
        refine (rall_any wr).mono ?_
        rintro e w2 ⟨rfl, hb⟩
        have HGX := Lib.hid (HG.out.on hb)
        have HIS := Lib.hid (HG.out.kids.far hlt (show IsT w2 (fun b => wr.heap.size ≤ b) (.slice none 0 0) every from IsT.nil _ _))
        clear hb HG j42 j63 j92 hlt
        simp only [nodeV]
        go_wp2_with (refine wpList_append_node rfl (.tmp 62) (.tmp 64) rfl (w.heap.size + 1) _ ps rfl HGX.out.kids (every) (.slice none 0 0) _ rfl rfl HIS.out (by omega) (lt_of_block HGX.out.res) ?_; intro v' w9 hk9 hb9 hsz9; have HG9 := Lib.hid (HGX.out.app hk9 hb9); clear hk9 hb9 hsz9)
        go_roundg (gk - 1)
        case measure => omega
        case rel => exact ⟨i + 1, ps ++ [(every, .slice none 0 0)], by go_num, by omega, by omega, by simp; omega, Lib.hid (by rw [List.map_append]; exact HR2.out), HG9⟩
      have j63 : ((s[i].toNat : Int) == 63) = false := by rw [beq_eq_false_iff_ne]; omega
      have n63 : s[i] ≠ 63 := fun h => e63 (by rw [h]; rfl)
      rw [globR_cons _ _ _ n92] at hr
      have HR2 := Lib.hid (show globR (ps.map (·.1) ++ [one s[i].toNat]) (s.data.toList.drop (i + 1)) = r by rw [← hr]; simp [globOne, n42, n63])
      clear hr HR e42 e63 e92 n42 n63 n92
      go_wp2_with fail
      refine (rone_any s[i].toNat s[i].toNat_lt wr).mono ?_
      rintro e w2 ⟨rfl, hb⟩
      have HGX := Lib.hid (HG.out.on hb)
      have HIS := Lib.hid (HG.out.kids.far hlt (show IsT w2 (fun b => wr.heap.size ≤ b) (.slice none 0 0) (one s[i].toNat) from IsT.nil _ _))
      clear hb HG j42 j63 j92 hlt
      simp only [nodeV]
      go_wp2_with (refine wpList_append_node rfl (.tmp 24) (.tmp 29) rfl (w.heap.size + 1) _ ps rfl HGX.out.kids (one s[i].toNat) (.slice none 0 0) _ rfl rfl HIS.out (by omega) (lt_of_block HGX.out.res) ?_; intro v' w9 hk9 hb9 hsz9; have HG9 := Lib.hid (HGX.out.app hk9 hb9); clear hk9 hb9 hsz9)
      go_roundg (gk - 1)
      case measure => omega
      case rel => exact ⟨i + 1, ps ++ [(one s[i].toNat, .slice none 0 0)], by go_num, by omega, by omega, by simp; omega, Lib.hid (by rw [List.map_append]; exact HR2.out), HG9⟩
    · obtain rfl : i = s.size := by omega
      have hex : ¬ ((s.size : Int) < s.size) := by omega
      have hr := HR.out
      rw [drop_end s s.size (Nat.le_refl _), globR_end] at hr
      subst hr
      obtain ⟨t, ht⟩ : ∃ t, joined 3 (ps.map (·.1)) = t := ⟨_, rfl⟩
      have hJ := rover_any 3 (w.heap.size + 1) _ ps wr HG.out.kids (by omega)
      rw [ht] at hJ
      have HJ := Lib.hid hJ; have HT := Lib.hid ht
      clear ht hJ HR
      go_wp2_with fail
      refine HJ.out.mono ?_
      rintro e w6 ⟨K3, rfl, hK3, hb3⟩
      have HG4 := Lib.hid (HG.out.on hb3)
      have HD := Lib.hid (HG4.out.put hK3 (nodeC t K3).toArray)
      have HA := Lib.hid (node_all hK3)
      clear hK3 hb3 HG HJ
      go_wp2_with (refine wpList_store_row rfl TN (.tmp 2) (.tmp 67) rfl w.heap.size (nodeC t K3).toArray rfl rfl TN zN HG4.out.res (by kernel_rfl) rfl HA.out ?_)
      exact bodyPost_ret (v := .tuple #[.agg (nodeC t K3).toArray, .bool true]) (results_rt rfl _ _ w.heap.size _ _ rfl rfl (load_node _ _ _ (setRow_heap _ _ _ _ _ _ HG4.out.res) rfl)) rfl (rglobIs_ok (K := K3) (by rw [HT.out]; rfl) (by rw [HT.out]; exact HD.out.1) HD.out.2)
end Go.Proofs.YtfhggnbnbopkkaaDoor

namespace Go.Proofs.YtfhggnbnbopkkaaDoor
open Go.RowKit PM

theorem results_row1 {fn : Func} {p2 : Tmp} {t2 : TypeId} (h : fn.results = #[.cell p2 t2]) (tmps : Array Value) (W : World) (b2 : Nat) (Y : Value)
    (h2 : tmps.getD p2 undef = .pointer (some ⟨b2, 0, none⟩)) (l2 : (loadVar t2 ⟨b2, 0, none⟩).run Tryd.prog W = .ok Y W) :
    (results fn tmps).run Tryd.prog W = .ok Y W := by
  have h2' : tmps[p2]?.getD undef = .pointer (some ⟨b2, 0, none⟩) := by simpa using h2
  simp [results, h, h2', asAddr, l2]

set_option maxRecDepth 100000 in
theorem bad_any (k : Nat) (w : World) : Calls Tryd.prog 46 #[.int .i64 k] w fun e w' => e = .returned (spotV 6 k) ∧ Below w.heap.size w w' := by
  have hN := Lib.hid (heap_alloc_new w (.cells (spotC 6 k) TSp)); have HB := Lib.hid (below_new w (.cells (spotC 6 k) TSp))
  go_enter Tryd.func46, Tryd.ntmps46
  go_wp2_with fail
  exact bodyPost_ret (results_row1 rfl _ _ w.heap.size _ rfl (load_spot _ _ _ hN.out rfl)) rfl ⟨rfl, HB.out⟩

end Go.Proofs.YtfhggnbnbopkkaaDoor
