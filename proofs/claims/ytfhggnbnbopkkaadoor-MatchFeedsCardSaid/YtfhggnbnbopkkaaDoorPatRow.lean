/- Regular texts: parts, one behind the other: the walk. -/
import Derived.Test.YtfhggnbnbopkkaaDoorPatAlts
import Derived.Deep.Cut
namespace Go.Proofs.YtfhggnbnbopkkaaDoor
open Go.RowKit PM
attribute [local go_sem] nodeC

/-- what is held beside the parts: a part under way, in a block of its own -/
structure XS (w : World) (g : Nat) (s : ByteArray) (wr : World) (n : Nat) (v : Value) (ps : List (T × Value)) (b : Nat) (x : T) (K : Value) : Prop where
  rg : RG wr g s n
  own : wr.ownsRow (w.heap.size + 1) TN 6 v ps.length (rowC ps)
  each : ∀ q ∈ ps, IsT wr (fun k => (w.heap.size + 1 ≤ k ∧ v.ownBlock ≠ some k) ∧ k ≠ b) q.2 q.1
  res : wr.heap[w.heap.size]? = some (.cells zN TN (0, 0))
  up : w.grownBy wr (some g)
  nb : wr.heap[b]? = some (.cells (nodeC x K).toArray TN (0, 0))
  is : IsT wr (fun k => (w.heap.size + 1 ≤ k ∧ v.ownBlock ≠ some k) ∧ k ≠ b) K x
  hb : w.heap.size + 1 ≤ b
  hne : v.ownBlock ≠ some b

theorem XS.ps {w : World} {g : Nat} {s : ByteArray} {wr : World} {n : Nat} {v : Value} {ps : List (T × Value)} {b : Nat} {x : T} {K : Value} (h : XS w g s wr n v ps b x K) : PS w g s wr n v ps :=
  ⟨h.rg, ⟨h.own, fun q hq => (h.each q hq).imp fun _ hk _ => hk.1⟩, h.res, h.up⟩

theorem XS.mk' {w : World} {g : Nat} {s : ByteArray} {wr : World} {n : Nat} {v : Value} {ps : List (T × Value)} {x : T} {K : Value} (h : PS w g s wr n v ps) (hK : IsT wr (fun k => w.heap.size + 1 ≤ k ∧ v.ownBlock ≠ some k) K x) :
    XS w g s (wr.alloc (.cells (nodeC x K).toArray TN)) n v ps wr.heap.size x K := by
  have hb := below_new wr (.cells (nodeC x K).toArray TN)
  have h' := h.on hb
  exact ⟨h'.rg, h'.kids.own, fun q hq => ((h.kids.each q hq).imp (q := fun k => (w.heap.size + 1 ≤ k ∧ v.ownBlock ≠ some k) ∧ k ≠ wr.heap.size) fun k hk hl => ⟨hk, by omega⟩).on hb, h'.res, h'.up, heap_alloc_new wr _,
    (hK.imp (q := fun k => (w.heap.size + 1 ≤ k ∧ v.ownBlock ≠ some k) ∧ k ≠ wr.heap.size) fun k hk hl => ⟨hk, by omega⟩).on hb, lt_of_block h.res, fun e => by have := (h.kids.own.lt _ e).2; omega⟩

theorem XS.on {w : World} {g : Nat} {s : ByteArray} {wr w' : World} {n : Nat} {v : Value} {ps : List (T × Value)} {b : Nat} {x : T} {K : Value} (h : XS w g s wr n v ps b x K) (hb : Below wr.heap.size wr w') : XS w g s w' n v ps b x K :=
  ⟨h.rg.on hb, (h.ps.kids.on hb).own, fun q hq => (h.each q hq).on hb, (hb.block _ (lt_of_block h.res)).trans h.res, grown_trans h.up (grown_below hb _), (hb.block _ (lt_of_block h.nb)).trans h.nb, h.is.on hb, h.hb, h.hne⟩

theorem XS.step {w : World} {g : Nat} {s : ByteArray} {wr : World} {n : Nat} {v : Value} {ps : List (T × Value)} {b : Nat} {x : T} {K : Value} (h : XS w g s wr n v ps b x K) (hg : g < w.heap.size) (m : Nat) : XS w g s (wr.setCell ⟨g, 1, none⟩ (.int .i64 m)) m v ps b x K := by
  have h' := h.ps.step hg m
  have hgr := RG.setB wr g (.int .i64 m)
  exact ⟨h'.rg, h'.kids.own, fun q hq => (h.each q hq).grown hgr (fun k hk e => by cases e; omega), h'.res, h'.up, (hgr.block _ (lt_of_block h.nb) (by have := h.hb; simp; omega)).trans h.nb, h.is.grown hgr (fun k hk e => by cases e; omega), h.hb, h.hne⟩

def overC (op : Nat) (K : Value) : Array Value := #[.int .i64 op, .int .u64 0, .int .u64 0, .int .u64 0, .int .u64 0, K]
theorem overC_eq (op : Nat) (x : T) (K : Value) : (nodeC (over op x) K).toArray = overC op K := by
  have := nodeV_op op [x] K
  unfold nodeV at this
  injection this

/-- the part becomes the only kid of a node -/
theorem XS.wrap {w : World} {g : Nat} {s : ByteArray} {wr : World} {n : Nat} {v : Value} {ps : List (T × Value)} {b : Nat} {x : T} {K : Value} (h : XS w g s wr n v ps b x K) (hg : g < w.heap.size) (op : Nat) :
    XS w g s ((wr.alloc (.cells (nodeC x K).toArray TN)).setRow b (overC op (.slice (some ⟨wr.heap.size, 0, none⟩) 1 1))) n v ps b (over op x) (.slice (some ⟨wr.heap.size, 0, none⟩) 1 1) := by
  rw [← overC_eq op x]
  have h1 := h.on (below_new wr (.cells (nodeC x K).toArray TN))
  have hgr := grown_row (wr.alloc (.cells (nodeC x K).toArray TN)) b (nodeC (over op x) (.slice (some ⟨wr.heap.size, 0, none⟩) 1 1)).toArray
  have hbl := lt_of_block h.nb
  have hv : ∀ k, v.ownBlock = some k → k < wr.heap.size := fun k e => (h.own.lt k e).2
  have hT : IsT (wr.alloc (.cells (nodeC x K).toArray TN)) (fun k => (w.heap.size + 1 ≤ k ∧ v.ownBlock ≠ some k) ∧ k ≠ b) (.slice (some ⟨wr.heap.size, 0, none⟩) 1 1) (over op x) := by
    refine IsT.mk op noSet [x] (some ⟨wr.heap.size, 0, none⟩) 1 (fun _ => K) (fun _ => ⟨wr.heap.size, 0, rfl, ⟨⟨by have := h.hb; omega, fun e => by have := hv _ e; omega⟩, by omega⟩, by simp, fun i t j u ht hu => ?_⟩) (fun i t ht => ?_) (Nat.le_refl _)
    · obtain ⟨rfl, rfl⟩ : i = 0 ∧ t = x := by
        cases i with
        | zero => simp at ht; exact ⟨rfl, ht.symm⟩
        | succ i => simp at ht
      have := World.news_of_block (heap_alloc_new wr (.cells (nodeC t K).toArray TN)) j u (by simpa using hu)
      rw [Addr.add_lit] at this
      simpa using this
    · obtain ⟨rfl, rfl⟩ : i = 0 ∧ t = x := by
        cases i with
        | zero => simp at ht; exact ⟨rfl, ht.symm⟩
        | succ i => simp at ht
      exact h1.is
  exact ⟨h1.rg.moved hgr (by have := h.hb; simp; omega), h1.own.kept hgr (.inr h.hne), fun q hq => (h1.each q hq).grown hgr (fun k hk e => by cases e; exact hk.2 rfl), (hgr.block _ (lt_of_block h1.res) (by have := h.hb; simp; omega)).trans h1.res,
    ⟨h1.up.os, h1.up.tape, h1.up.output, by have := h1.up.size; simp at this ⊢; omega, fun k hk hne => (hgr.block k (by have := h1.up.size; omega) (by have := h.hb; simp; omega)).trans (h1.up.block k hk hne)⟩,
    setRow_heap _ _ _ _ _ _ h1.nb, hT.grown hgr (fun k hk e => by cases e; exact hk.2 rfl), h.hb, h.hne⟩

theorem byte_is {c : UInt8} {n : Nat} {k : UInt8} (h : ((c.toNat : Int) == (n : Int)) = true) (hk : k.toNat = n) : c = k := u8_eq (by rw [beq_iff_eq] at h; omega)

/-- what may stand behind a part -/
theorem post_cases (s : List UInt8) (m : Nat) :
    (s[m]? = none) ∨ (∃ c, s[m]? = some c ∧ ((c.toNat : Int) == 42) = true ∧ s[m]? = some 42) ∨ (∃ c, s[m]? = some c ∧ ((c.toNat : Int) == 42) = false ∧ ((c.toNat : Int) == 43) = true ∧ ¬ s[m]? = some 42 ∧ s[m]? = some 43) ∨
    (∃ c, s[m]? = some c ∧ ((c.toNat : Int) == 42) = false ∧ ((c.toNat : Int) == 43) = false ∧ ((c.toNat : Int) == 63) = true ∧ ¬ s[m]? = some 42 ∧ ¬ s[m]? = some 43 ∧ s[m]? = some 63) ∨
    (∃ c, s[m]? = some c ∧ ((c.toNat : Int) == 42) = false ∧ ((c.toNat : Int) == 43) = false ∧ ((c.toNat : Int) == 63) = false ∧ ¬ s[m]? = some 42 ∧ ¬ s[m]? = some 43 ∧ ¬ s[m]? = some 63) := by
  cases h : s[m]? with
  | none => exact .inl rfl
  | some c =>
    right
    rcases byte_three s m 42 42 rfl with ⟨h1, _⟩ | ⟨d, h1, h2, h3⟩ | ⟨d, h1, h2, h3⟩
    · rw [h] at h1; cases h1
    · rw [h] at h1 h3; cases h1; exact .inl ⟨c, rfl, h2, h3⟩
    · rw [h] at h1 h3; cases h1
      right
      rcases byte_three s m 43 43 rfl with ⟨h1, _⟩ | ⟨d, h1, h4, h5⟩ | ⟨d, h1, h4, h5⟩
      · rw [h] at h1; cases h1
      · rw [h] at h1 h5; cases h1; exact .inl ⟨c, rfl, h2, h4, h3, h5⟩
      · rw [h] at h1 h5; cases h1
        right
        rcases byte_three s m 63 63 rfl with ⟨h1, _⟩ | ⟨d, h1, h6, h7⟩ | ⟨d, h1, h6, h7⟩
        · rw [h] at h1; cases h1
        · rw [h] at h1 h7; cases h1; exact .inl ⟨c, rfl, h2, h4, h6, h3, h5, h7⟩
        · rw [h] at h1 h7; cases h1; exact .inr ⟨c, rfl, h2, h4, h6, h3, h5, h7⟩

set_option maxRecDepth 100000 in
set_option maxHeartbeats 8000000 in
theorem row_step (F : Nat) (ih : ∀ f, f < F → AtomC f) : RowC F := by
  intro g s a w h ha hs hF
  have hg := h.lt
  have hb0 := below_new w (.cells zN TN)
  have hPS : PS w g s (w.alloc (.cells zN TN)) a (.slice none 0 0) [] := ⟨h.on hb0, Kids.nil _ _, heap_alloc_new w _, grown_below hb0 _⟩
  obtain ⟨r, hr⟩ : ∃ r, row F s.data.toList a [] = r := ⟨_, rfl⟩
  rw [hr]
  have HR := Lib.hid (show row F s.data.toList a (([] : List (T × Value)).map (·.1)) = r from hr); have HPS := Lib.hid hPS; have HG := Lib.hid hg; have IH := Lib.hid ih
  clear h hb0 hr hg ih hPS
  go_enter Tryd.func68, Tryd.ntmps68
  go_wp2_with fail
  change Code.wp _ _ _ _ (w.alloc (.cells zN TN))
  generalize w.alloc (.cells zN TN) = W0 at *
  go_loopg [3] F (fun k v3 wr => ∃ (n : Nat) (ps : List (T × Value)), n ≤ s.size ∧ ps.length ≤ n ∧ 3 * (s.size - n) + 2 ≤ k ∧ k ≤ F ∧ Hid (row k s.data.toList n (ps.map (·.1)) = r) ∧ Hid (PS w g s wr n v3 ps))
  case atStart => exact ⟨a, [], ha, by simp, hF, Nat.le_refl _, HR, HPS⟩
  case round =>
    clear HPS HR hF ha
    obtain ⟨n, ps, hnl, hpl, hk1, hk2, HR, HP⟩ := hrel
    obtain ⟨k, rfl⟩ : ∃ k, gk = k + 1 := ⟨gk - 1, by omega⟩
    have hni : (n : Int) ≤ 100000 := by omega
    go_wp2_with fail
    refine (next_any g s n wr HP.out.rg (by omega)).mono ?_
    rintro e w2 ⟨rfl, hb⟩
    have HP2 := Lib.hid (HP.out.on hb)
    clear hb HP
    have hr := HR.out
    simp only [row] at hr
    have HR2 := Lib.hid hr
    clear hr HR
    by_cases hend : s.data.toList[n]? = none ∨ s.data.toList[n]? = some 124 ∨ s.data.toList[n]? = some 41
    · have hr := HR2.out
      rw [if_pos hend] at hr
      have HR5 := Lib.hid hr
      clear hr
      have h3 : (s.data.toList[n]? = none) ∨ (∃ c, s.data.toList[n]? = some c ∧ ((c.toNat : Int) == 124) = true) ∨ (∃ c, s.data.toList[n]? = some c ∧ ((c.toNat : Int) == 124) = false ∧ ((c.toNat : Int) == 41) = true) := by
        rcases hend with h | h | h
        · exact .inl h
        · exact .inr (.inl ⟨124, h, rfl⟩)
        · exact .inr (.inr ⟨41, h, rfl, rfl⟩)
      clear HR2 hend
      rcases h3 with hn | ⟨c, hn, hj⟩ | ⟨c, hn, hj, hj2⟩
      all_goals
        simp only [nextV, hn]
        clear hn
        go_wp2_with fail
        try clear hj
        try clear hj2
        have hr := HR5.out
        clear HR5
        have hsz2 : w.heap.size + 1 ≤ w2.heap.size := lt_of_block HP2.out.res
        obtain ⟨t, ht⟩ : ∃ t, joined 3 (ps.map (·.1)) = t := ⟨_, rfl⟩
        have hJ := joined_any 3 (w.heap.size + 1) _ ps w2 HP2.out.kids (by omega)
        rw [ht] at hJ hr
        have HRE := Lib.hid hr
        clear hr ht
        refine hJ.mono ?_
        rintro e w3 ⟨K3, rfl, hK3, hb3⟩
        have HD := Lib.hid (HP2.out.done HG.out hb3 (hK3.imp fun b hb _ => by omega) hK3)
        have HA := Lib.hid (node_all hK3)
        have HZ := Lib.hid ((HP2.out.on hb3).res)
        clear hK3 hb3 HP2 hsz2 hJ
        go_wp2_with (refine wpList_store_row rfl TN (.tmp 2) (.tmp 25) rfl w.heap.size (nodeC t K3).toArray rfl rfl TN zN HZ.out (by kernel_rfl) rfl HA.out ?_)
        exact bodyPost_ret (results_cell_row rfl _ _ w.heap.size TN (nodeC t K3).toArray (0, 0) _ rfl (setRow_heap _ _ _ _ _ _ HZ.out) Tryd.underlying66 rfl (by kernel_rfl)) rfl (by have h := HD.out; rw [HRE.out] at h; exact h)
    · have hr := HR2.out
      rw [if_neg hend] at hr
      have HR3 := Lib.hid hr
      have h3 : ∃ c, s.data.toList[n]? = some c ∧ ((c.toNat : Int) == 124) = false ∧ ((c.toNat : Int) == 41) = false := by
        cases hn : s.data.toList[n]? with
        | none => exact absurd (.inl hn) hend
        | some c =>
          refine ⟨c, rfl, ?_, ?_⟩
          · rw [beq_eq_false_iff_ne]; intro e
            exact hend (.inr (.inl (by rw [hn]; congr 1; exact u8_eq (by have : c.toNat = 124 := by omega
                                                                         rw [this]; rfl))))
          · rw [beq_eq_false_iff_ne]; intro e
            exact hend (.inr (.inr (by rw [hn]; congr 1; exact u8_eq (by have : c.toNat = 41 := by omega
                                                                         rw [this]; rfl))))
      obtain ⟨c, hn, hj, hj2⟩ := h3
      have hnla := (byte_at s n c hn).1
      simp only [nextV, hn]
      clear hr HR2 hend hn
      go_wp2_with fail
      clear hj hj2
      refine (IH.out k (by omega) g s n w2 HP2.out.rg hnla hs (by omega)).mono ?_
      rintro e w3 hm
      have hr := HR3.out
      rcases hat : atom k s.data.toList n with ⟨x, m⟩ | ⟨k'⟩
      case bad =>
        rw [hat] at hm hr
        obtain ⟨rfl, hup⟩ := hm
        subst hr
        have HUP := Lib.hid (grown_trans HP2.out.up hup)
        clear hup HR3 HP2 hat
        go_wp2_with fail
        exact ⟨rfl, readIs_bad rfl HUP.out⟩
      case ok =>
      rw [hat] at hm hr
      obtain ⟨K, rfl, hK, hrg, hup⟩ := hm
      obtain ⟨hnm, hms⟩ := (read_pos s.data.toList k).2.2 _ _ _ hat
      have hml : m ≤ s.size := hms
      have hszw : w.heap.size + 1 ≤ w2.heap.size := lt_of_block HP2.out.res
      have HKF := Lib.hid (HP2.out.kids.far hszw hK)
      have hXS := XS.mk' (HP2.out.go HG.out hrg hup) HKF.out
      have HR4 := Lib.hid hr
      obtain ⟨Ak, ck, hKs⟩ := hK.slice
      subst hKs
      have HXS := Lib.hid hXS
      clear hr HR3 HP2 hat hK hrg hup hms hszw HKF hXS
      simp only [nodeV]
      go_wp2_with fail
      change Calls _ _ _ (w3.alloc (.cells (nodeC x (.slice Ak x.kids.length ck)).toArray TN)) _
      obtain ⟨b, hb⟩ : ∃ b, w3.heap.size = b := ⟨_, rfl⟩
      rw [hb] at HXS ⊢
      generalize w3.alloc (.cells (nodeC x (.slice Ak x.kids.length ck)).toArray TN) = W5 at *
      clear hb
      generalize Value.slice Ak x.kids.length ck = K at *
      refine (next_any g s m W5 HXS.out.rg (by omega)).mono ?_
      rintro e w6 ⟨rfl, hb⟩
      have HX6 := Lib.hid (HXS.out.on hb)
      clear hb HXS
      have hmi : (m : Int) ≤ 100000 := by omega
      have hr := HR4.out
      rcases post_cases s.data.toList m with hn | ⟨c2, hn, j1, n1⟩ | ⟨c2, hn, j1, j2, n1, n2⟩ | ⟨c2, hn, j1, j2, j3, n1, n2, n3⟩ | ⟨c2, hn, j1, j2, j3, n1, n2, n3⟩
      case inr.inl =>
        have hmla := (byte_at s m c2 hn).1
        simp only [n1, if_true] at hr
        have HR5 := Lib.hid hr
        have HX7 := Lib.hid (HX6.out.wrap HG.out 5)
        have c1 := HX7.out.rg.c1; have f1 := HX7.out.rg.f1
        have HN6 := Lib.hid HX6.out.nb
        have HA7 : Hid ((overC 5 (.slice (some ⟨w6.heap.size, 0, none⟩) 1 1)).all (·.oneCell') = true) := Lib.hid (by simp [overC, Value.oneCell'])
        simp only [nextV, hn]
        clear hr HR4 hn HX6
        try clear n1
        try clear n2
        try clear n3
        go_upto_region 17 with (first | (refine wpList_load_row rfl TN (.tmp 6) rfl b rfl TN _ (0, 0) _ HN6.out Tryd.underlying66 rfl (by kernel_rfl) ?_) | (refine wpList_store_row rfl TN (.tmp 6) (.tmp 38) rfl b (overC 5 (.slice (some ⟨w6.heap.size, 0, none⟩) 1 1)) rfl rfl TN (nodeC x K).toArray ((below_new w6 _).block _ (lt_of_block HN6.out) |>.trans HN6.out) (by kernel_rfl) rfl HA7.out ?_; change wpList _ _ _ _ _ ((w6.alloc (.cells (nodeC x K).toArray TN)).setRow b (overC 5 (.slice (some ⟨w6.heap.size, 0, none⟩) 1 1))); generalize (w6.alloc (.cells (nodeC x K).toArray TN)).setRow b (overC 5 (.slice (some ⟨w6.heap.size, 0, none⟩) 1 1)) = W7 at HX7 c1 f1 ⊢))
        have hX8 := HX7.out.step HG.out (m + 1)
        have HX8 := Lib.hid hX8
        have HIS := Lib.hid (hX8.is.imp (q := fun k => w.heap.size + 1 ≤ k ∧ _) fun k hk _ => hk.1)
        clear c1 f1 j1 HX7 hX8
        try clear j2
        try clear j3
        change Code.wp _ _ _ _ (W7.setCell ⟨g, 1, none⟩ (.int .i64 ↑(m + 1)))
        generalize W7.setCell ⟨g, 1, none⟩ (.int .i64 ↑(m + 1)) = W8 at *
        go_wp2_with (first | (refine wpList_load_row rfl TN (.tmp 6) rfl b rfl TN _ (0, 0) _ HX8.out.nb Tryd.underlying66 rfl (by kernel_rfl) ?_) | (refine wpList_append_node rfl (.tmp 70) (.tmp 72) rfl (w.heap.size + 1) _ ps rfl HX8.out.ps.kids (over 5 x) (.slice (some ⟨w6.heap.size, 0, none⟩) 1 1) _ rfl rfl HIS.out (by omega) (lt_of_block HX8.out.res) ?_; intro v' w9 hk9 hb9 hsz9))
        have HP9 := Lib.hid (HX8.out.ps.app HG.out hk9 hb9)
        clear hk9 hb9 HX8 HIS hsz9
        go_wp2_with fail
        go_roundg k
        case measure => omega
        case rel => exact ⟨m + 1, ps ++ [(over 5 x, .slice (some ⟨w6.heap.size, 0, none⟩) 1 1)], by omega, by simp; omega, by omega, by omega, Lib.hid (by rw [List.map_append]; exact HR5.out), HP9⟩
      case inr.inr.inl =>
        have hmla := (byte_at s m c2 hn).1
        simp only [n2, if_true] at hr
        have HR5 := Lib.hid hr
        have HX7 := Lib.hid (HX6.out.wrap HG.out 6)
        have c1 := HX7.out.rg.c1; have f1 := HX7.out.rg.f1
        have HN6 := Lib.hid HX6.out.nb
        have HA7 : Hid ((overC 6 (.slice (some ⟨w6.heap.size, 0, none⟩) 1 1)).all (·.oneCell') = true) := Lib.hid (by simp [overC, Value.oneCell'])
        simp only [nextV, hn]
        clear hr HR4 hn HX6
        try clear n1
        try clear n2
        try clear n3
        go_upto_region 17 with (first | (refine wpList_load_row rfl TN (.tmp 6) rfl b rfl TN _ (0, 0) _ HN6.out Tryd.underlying66 rfl (by kernel_rfl) ?_) | (refine wpList_store_row rfl TN (.tmp 6) (.tmp 50) rfl b (overC 6 (.slice (some ⟨w6.heap.size, 0, none⟩) 1 1)) rfl rfl TN (nodeC x K).toArray ((below_new w6 _).block _ (lt_of_block HN6.out) |>.trans HN6.out) (by kernel_rfl) rfl HA7.out ?_; change wpList _ _ _ _ _ ((w6.alloc (.cells (nodeC x K).toArray TN)).setRow b (overC 6 (.slice (some ⟨w6.heap.size, 0, none⟩) 1 1))); generalize (w6.alloc (.cells (nodeC x K).toArray TN)).setRow b (overC 6 (.slice (some ⟨w6.heap.size, 0, none⟩) 1 1)) = W7 at HX7 c1 f1 ⊢))
        have hX8 := HX7.out.step HG.out (m + 1)
        have HX8 := Lib.hid hX8
        have HIS := Lib.hid (hX8.is.imp (q := fun k => w.heap.size + 1 ≤ k ∧ _) fun k hk _ => hk.1)
        clear c1 f1 j1 HX7 hX8
        try clear j2
        try clear j3
        change Code.wp _ _ _ _ (W7.setCell ⟨g, 1, none⟩ (.int .i64 ↑(m + 1)))
        generalize W7.setCell ⟨g, 1, none⟩ (.int .i64 ↑(m + 1)) = W8 at *
        go_wp2_with (first | (refine wpList_load_row rfl TN (.tmp 6) rfl b rfl TN _ (0, 0) _ HX8.out.nb Tryd.underlying66 rfl (by kernel_rfl) ?_) | (refine wpList_append_node rfl (.tmp 70) (.tmp 72) rfl (w.heap.size + 1) _ ps rfl HX8.out.ps.kids (over 6 x) (.slice (some ⟨w6.heap.size, 0, none⟩) 1 1) _ rfl rfl HIS.out (by omega) (lt_of_block HX8.out.res) ?_; intro v' w9 hk9 hb9 hsz9))
        have HP9 := Lib.hid (HX8.out.ps.app HG.out hk9 hb9)
        clear hk9 hb9 HX8 HIS hsz9
        go_wp2_with fail
        go_roundg k
        case measure => omega
        case rel => exact ⟨m + 1, ps ++ [(over 6 x, .slice (some ⟨w6.heap.size, 0, none⟩) 1 1)], by omega, by simp; omega, by omega, by omega, Lib.hid (by rw [List.map_append]; exact HR5.out), HP9⟩
      case inr.inr.inr.inl =>
        have hmla := (byte_at s m c2 hn).1
        simp only [n3, if_true] at hr
        have HR5 := Lib.hid hr
        have HX7 := Lib.hid (HX6.out.wrap HG.out 7)
        have c1 := HX7.out.rg.c1; have f1 := HX7.out.rg.f1
        have HN6 := Lib.hid HX6.out.nb
        have HA7 : Hid ((overC 7 (.slice (some ⟨w6.heap.size, 0, none⟩) 1 1)).all (·.oneCell') = true) := Lib.hid (by simp [overC, Value.oneCell'])
        simp only [nextV, hn]
        clear hr HR4 hn HX6
        try clear n1
        try clear n2
        try clear n3
        go_upto_region 17 with (first | (refine wpList_load_row rfl TN (.tmp 6) rfl b rfl TN _ (0, 0) _ HN6.out Tryd.underlying66 rfl (by kernel_rfl) ?_) | (refine wpList_store_row rfl TN (.tmp 6) (.tmp 62) rfl b (overC 7 (.slice (some ⟨w6.heap.size, 0, none⟩) 1 1)) rfl rfl TN (nodeC x K).toArray ((below_new w6 _).block _ (lt_of_block HN6.out) |>.trans HN6.out) (by kernel_rfl) rfl HA7.out ?_; change wpList _ _ _ _ _ ((w6.alloc (.cells (nodeC x K).toArray TN)).setRow b (overC 7 (.slice (some ⟨w6.heap.size, 0, none⟩) 1 1))); generalize (w6.alloc (.cells (nodeC x K).toArray TN)).setRow b (overC 7 (.slice (some ⟨w6.heap.size, 0, none⟩) 1 1)) = W7 at HX7 c1 f1 ⊢))
        have hX8 := HX7.out.step HG.out (m + 1)
        have HX8 := Lib.hid hX8
        have HIS := Lib.hid (hX8.is.imp (q := fun k => w.heap.size + 1 ≤ k ∧ _) fun k hk _ => hk.1)
        clear c1 f1 j1 HX7 hX8
        try clear j2
        try clear j3
        change Code.wp _ _ _ _ (W7.setCell ⟨g, 1, none⟩ (.int .i64 ↑(m + 1)))
        generalize W7.setCell ⟨g, 1, none⟩ (.int .i64 ↑(m + 1)) = W8 at *
        go_wp2_with (first | (refine wpList_load_row rfl TN (.tmp 6) rfl b rfl TN _ (0, 0) _ HX8.out.nb Tryd.underlying66 rfl (by kernel_rfl) ?_) | (refine wpList_append_node rfl (.tmp 70) (.tmp 72) rfl (w.heap.size + 1) _ ps rfl HX8.out.ps.kids (over 7 x) (.slice (some ⟨w6.heap.size, 0, none⟩) 1 1) _ rfl rfl HIS.out (by omega) (lt_of_block HX8.out.res) ?_; intro v' w9 hk9 hb9 hsz9))
        have HP9 := Lib.hid (HX8.out.ps.app HG.out hk9 hb9)
        clear hk9 hb9 HX8 HIS hsz9
        go_wp2_with fail
        go_roundg k
        case measure => omega
        case rel => exact ⟨m + 1, ps ++ [(over 7 x, .slice (some ⟨w6.heap.size, 0, none⟩) 1 1)], by omega, by simp; omega, by omega, by omega, Lib.hid (by rw [List.map_append]; exact HR5.out), HP9⟩
      case inr.inr.inr.inr =>
        simp only [if_neg n1, if_neg n2, if_neg n3] at hr
        have HR5 := Lib.hid hr
        simp only [nextV, hn]
        clear hr HR4 hn
        go_upto_region 17 with (fail)
        have HIS := Lib.hid (HX6.out.is.imp (q := fun k => w.heap.size + 1 ≤ k ∧ _) fun k hk _ => hk.1)
        have HX8 := HX6
        clear HX6
        try clear j1
        try clear j2
        try clear j3
        go_wp2_with (first | (refine wpList_load_row rfl TN (.tmp 6) rfl b rfl TN _ (0, 0) _ HX8.out.nb Tryd.underlying66 rfl (by kernel_rfl) ?_) | (refine wpList_append_node rfl (.tmp 70) (.tmp 72) rfl (w.heap.size + 1) _ ps rfl HX8.out.ps.kids (x) (K) _ rfl rfl HIS.out (by omega) (lt_of_block HX8.out.res) ?_; intro v' w9 hk9 hb9 hsz9))
        have HP9 := Lib.hid (HX8.out.ps.app HG.out hk9 hb9)
        clear hk9 hb9 HX8 HIS hsz9
        go_wp2_with fail
        go_roundg k
        case measure => omega
        case rel => exact ⟨m, ps ++ [(x, K)], by omega, by simp; omega, by omega, by omega, Lib.hid (by rw [List.map_append]; exact HR5.out), HP9⟩
      case inl =>
        simp only [hn, if_neg (show ¬ (none : Option UInt8) = some 42 by simp), if_neg (show ¬ (none : Option UInt8) = some 43 by simp), if_neg (show ¬ (none : Option UInt8) = some 63 by simp)] at hr
        have HR5 := Lib.hid hr
        simp only [nextV, hn]
        clear hr HR4 hn
        go_upto_region 17 with (fail)
        have HIS := Lib.hid (HX6.out.is.imp (q := fun k => w.heap.size + 1 ≤ k ∧ _) fun k hk _ => hk.1)
        have HX8 := HX6
        clear HX6
        try clear j1
        try clear j2
        try clear j3
        go_wp2_with (first | (refine wpList_load_row rfl TN (.tmp 6) rfl b rfl TN _ (0, 0) _ HX8.out.nb Tryd.underlying66 rfl (by kernel_rfl) ?_) | (refine wpList_append_node rfl (.tmp 70) (.tmp 72) rfl (w.heap.size + 1) _ ps rfl HX8.out.ps.kids (x) (K) _ rfl rfl HIS.out (by omega) (lt_of_block HX8.out.res) ?_; intro v' w9 hk9 hb9 hsz9))
        have HP9 := Lib.hid (HX8.out.ps.app HG.out hk9 hb9)
        clear hk9 hb9 HX8 HIS hsz9
        go_wp2_with fail
        go_roundg k
        case measure => omega
        case rel => exact ⟨m, ps ++ [(x, K)], by omega, by simp; omega, by omega, by omega, Lib.hid (by rw [List.map_append]; exact HR5.out), HP9⟩

end Go.Proofs.YtfhggnbnbopkkaaDoor
