/- The document's atom; its readers of trees joined. -/
import Derived.Test.YtfhggnbnbopkkaaDoorPatRefRow
import Derived.Test.YtfhggnbnbopkkaaDoorPatRefClass
import Derived.Test.YtfhggnbnbopkkaaDoorPatEmpty
import Derived.Test.YtfhggnbnbopkkaaDoorMatPats

namespace Go.Proofs.YtfhggnbnbopkkaaDoor
open Go.RowKit PM
attribute [local go_sem] nodeC

theorem u8_beq {c : UInt8} {k : Nat} (h : c.toNat = k) (n : Nat) : ((c.toNat : Int) == (n : Int)) = Nat.beq k n := by
  rw [beq_lit n h]

/-- what stands behind a node's store into the result's block -/
theorem res_put {w wr : World} {t : T} {K : Value} (hr : wr.heap[w.heap.size]? = some (.cells zN TN (0, 0))) (hb : Below w.heap.size w wr) (hK : IsT wr (fun b => w.heap.size + 1 ≤ b) K t) :
    IsT (wr.setRow w.heap.size (nodeC t K).toArray) (fun b => w.heap.size ≤ b) K t ∧ Below w.heap.size w (wr.setRow w.heap.size (nodeC t K).toArray) :=
  ⟨(hK.grown (grown_row wr w.heap.size _) (fun b hb e => by cases e; omega)).imp fun b hb _ => by omega, hb.trans (below_rowB _ _ _ _ (Nat.le_refl _))⟩

set_option maxRecDepth 100000 in
set_option maxHeartbeats 16000000 in
theorem ratom_step (F : Nat) (ih : ∀ f, f < F → RAltsC f) : RAtomC F := by
  intro s a w ha hs hF
  obtain ⟨f, rfl⟩ : ∃ f, F = f + 1 := ⟨F - 1, by omega⟩
  obtain ⟨r, hr⟩ : ∃ r, atom (f + 1) s.data.toList a = r := ⟨_, rfl⟩
  rw [hr]
  simp only [atom, List.getElem?_eq_getElem (show a < s.data.toList.length from ha)] at hr
  have hsa : s.data.toList[a] = s[a] := rfl
  rw [hsa] at hr
  have HR := Lib.hid hr; have IH := Lib.hid ih; have H0 := Lib.hid (gs_start w)
  have hal : (a : Int) < s.size := by omega
  have hai : (a : Int) ≤ 100000 := by omega
  have ha0 : (0 : Int) ≤ a := by omega
  clear hr ih hsa
  have hcase : s[a].toNat = 40 ∨ s[a].toNat = 91 ∨ s[a].toNat = 46 ∨ s[a].toNat = 42 ∨ s[a].toNat = 43 ∨ s[a].toNat = 63 ∨ s[a].toNat = 93 ∨ s[a].toNat = 92 ∨
      (s[a].toNat ≠ 40 ∧ s[a].toNat ≠ 91 ∧ s[a].toNat ≠ 46 ∧ s[a].toNat ≠ 42 ∧ s[a].toNat ≠ 43 ∧ s[a].toNat ≠ 63 ∧ s[a].toNat ≠ 93 ∧ s[a].toNat ≠ 92) := by omega
  rcases hcase with hc | hc | hc | hc | hc | hc | hc | hc | hc
  · have hr := HR.out
    rw [if_pos hc] at hr
    have HR1 := Lib.hid hr
    clear hr HR
    have x0 : ((s[a].toNat : Int) == 40) = true := by rw [hc]; rfl
    clear hc
    go_enter Tryd.func69, Tryd.ntmps69
    go_wp2_with fail
    change Calls _ _ _ (w.alloc (.cells zN TN)) _
    have hsz : (w.alloc (.cells zN TN)).heap.size = w.heap.size + 1 := by simp
    have HSZ := Lib.hid hsz
    clear hsz
    generalize w.alloc (.cells zN TN) = W0 at *
    refine (IH.out f (by omega) s (a + 1) W0 (by omega) hs (by omega)).mono ?_
    rintro e w1 hm
    have hr := HR1.out
    rcases halt : alts f s.data.toList (a + 1) [] with ⟨y, m⟩ | ⟨k'⟩
    · rw [halt] at hm hr
      obtain ⟨K, rfl, hK, hb⟩ := hm
      obtain ⟨A, c, rfl⟩ := hK.slice
      obtain ⟨ham, hms, -⟩ := (read_pos s.data.toList f).1 _ _ _ _ halt (show a + 1 ≤ s.data.toList.length from ha)
      have hend := alts_end _ _ _ halt (show a + 1 ≤ s.data.toList.length from ha)
      have hml : m ≤ s.size := hms
      rw [HSZ.out] at hK
      have HG1 := Lib.hid (H0.out.on hb)
      have HR2 := Lib.hid (show (if s.data.toList[m]? = some 41 then R.ok y (m + 1) else .bad m) = r from hr)
      have HK := Lib.hid hK
      have hmi : (m : Int) ≤ 100000 := by omega
      have hmi0 : (0 : Int) ≤ m := by omega
      clear hb hK hr halt hms H0 HR1 x0
      simp only [nodeV]
      go_upto_region 4 with (fail)
      have hN := NodAt.made w1 y (.slice A y.kids.length c)
      have hAB := below_new w1 (.cells #[.int .i64 y.op, .int .u64 (word y.set 0), .int .u64 (word y.set 1), .int .u64 (word y.set 2), .int .u64 (word y.set 3), .slice A y.kids.length c] TN)
      have HG2 := Lib.hid (HG1.out.on hAB)
      have HK2 := Lib.hid (HK.out.on hAB)
      obtain ⟨k0, k1, k2, k3, k4, k5⟩ := hN.cells
      clear hN hAB HG1 HK
      generalize w1.alloc (.cells #[.int .i64 y.op, .int .u64 (word y.set 0), .int .u64 (word y.set 1), .int .u64 (word y.set 2), .int .u64 (word y.set 3), .slice A y.kids.length c] TN) = w2 at *
      generalize w1.heap.size = B7 at *
      rcases hend with h1 | h1
      · have hge := byte_none s m h1
        have h2 : ((m : Int) == (s.size : Int)) = true := by rw [beq_iff_eq]; omega
        have hr := HR2.out
        rw [if_neg (by rw [h1]; simp)] at hr
        subst hr
        clear hge h1 HR2 k0 k1 k2 k3 k4 k5
        go_wp2_with (refine wpList_store_row rfl TN (.tmp 4) (.tmp 31) rfl w.heap.size zN rfl rfl TN zN HG2.out.res (by kernel_rfl) rfl (by simp [zN, Value.oneCell']) ?_)
        exact bodyPost_ret (v := .tuple #[.agg zN, .int .i64 m, .bool false]) (results_rtt rfl _ _ w.heap.size _ _ _ rfl rfl rfl (load_node _ _ zN (setRow_heap _ _ _ _ _ _ HG2.out.res) rfl)) rfl (refIs_bad rfl (HG2.out.bad _))
      · obtain ⟨hl, _⟩ := byte_at s m 41 h1
        have h2 : ((m : Int) == (s.size : Int)) = false := by rw [beq_eq_false_iff_ne]; omega
        have hr := HR2.out
        rw [if_pos h1] at hr
        subst hr
        have HD := Lib.hid (HG2.out.put HK2.out (nodeC y (.slice A y.kids.length c)).toArray)
        have HA := Lib.hid (node_all HK2.out)
        clear h1 HR2
        go_wp2_with (refine wpList_store_row rfl TN (.tmp 4) (.tmp 33) rfl w.heap.size (nodeC y (.slice A y.kids.length c)).toArray rfl rfl TN zN HG2.out.res (by kernel_rfl) rfl HA.out ?_)
        exact bodyPost_ret (v := .tuple #[.agg (nodeC y (.slice A y.kids.length c)).toArray, .int .i64 (m + 1), .bool true]) (results_rtt rfl _ _ w.heap.size _ _ _ rfl rfl rfl (load_node _ _ _ (setRow_heap _ _ _ _ _ _ HG2.out.res) rfl)) rfl (refIs_ok (n := m + 1) rfl HD.out.1 HD.out.2)
    · rw [halt] at hm hr
      obtain ⟨rfl, hb⟩ := hm
      subst hr
      have HG1 := Lib.hid ((H0.out.on hb).on (below_new w1 (.cells zN TN)))
      have hN := heap_alloc_new w1 (.cells zN TN)
      have HN := Lib.hid hN
      clear hb H0 HR1 halt x0 hN
      simp only [zN] at HG1 HN ⊢
      go_wp2_with (refine wpList_store_row rfl TN (.tmp 4) (.tmp 25) rfl w.heap.size zN rfl rfl TN zN HG1.out.res (by kernel_rfl) rfl (by simp [zN, Value.oneCell']) ?_)
      exact bodyPost_ret (v := .tuple #[.agg zN, .int .i64 k', .bool false]) (results_rtt rfl _ _ w.heap.size _ _ _ rfl rfl rfl (load_node _ _ zN (setRow_heap _ _ _ _ _ _ HG1.out.res) rfl)) rfl (refIs_bad rfl (HG1.out.bad _))
  · have hr := HR.out
    rw [if_neg (by omega), if_pos hc] at hr
    have HR1 := Lib.hid hr
    clear hr HR
    have x0 : ((s[a].toNat : Int) == 40) = false := by rw [hc]; rfl
    have x1 : ((s[a].toNat : Int) == 91) = true := by rw [hc]; rfl
    clear hc
    go_enter Tryd.func69, Tryd.ntmps69
    go_wp2_with fail
    change Calls _ _ _ (w.alloc (.cells zN TN)) _
    have hsz : (w.alloc (.cells zN TN)).heap.size = w.heap.size + 1 := by simp
    have HSZ := Lib.hid hsz
    clear hsz
    generalize w.alloc (.cells zN TN) = W0 at *
    refine (rclass_any s (a + 1) W0 (by omega) hs).mono ?_
    rintro e w1 hm
    rw [HR1.out] at hm
    rcases r with ⟨y, m⟩ | ⟨k'⟩
    · obtain ⟨K, rfl, hK, hb⟩ := hm
      obtain ⟨A, c, rfl⟩ := hK.slice
      rw [HSZ.out] at hK
      have HG2 := Lib.hid (H0.out.on hb)
      have HK2 := Lib.hid hK
      have HD := Lib.hid (HG2.out.put HK2.out (nodeC y (.slice A y.kids.length c)).toArray)
      have HA := Lib.hid (node_all HK2.out)
      clear hb hK H0 HR1 x0 x1
      simp only [nodeV]
      go_wp2_with (refine wpList_store_row rfl TN (.tmp 4) (.tmp 42) rfl w.heap.size (nodeC y (.slice A y.kids.length c)).toArray rfl rfl TN zN HG2.out.res (by kernel_rfl) rfl HA.out ?_)
      exact bodyPost_ret (v := .tuple #[.agg (nodeC y (.slice A y.kids.length c)).toArray, .int .i64 m, .bool true]) (results_rtt rfl _ _ w.heap.size _ _ _ rfl rfl rfl (load_node _ _ _ (setRow_heap _ _ _ _ _ _ HG2.out.res) rfl)) rfl (refIs_ok rfl HD.out.1 HD.out.2)
    · obtain ⟨rfl, hb⟩ := hm
      have HG1 := Lib.hid (H0.out.on hb)
      clear hb H0 HR1 x0 x1
      simp only [zN] at HG1 ⊢
      go_wp2_with (refine wpList_store_row rfl TN (.tmp 4) (.tmp 42) rfl w.heap.size zN rfl rfl TN zN HG1.out.res (by kernel_rfl) rfl (by simp [zN, Value.oneCell']) ?_)
      exact bodyPost_ret (v := .tuple #[.agg zN, .int .i64 k', .bool false]) (results_rtt rfl _ _ w.heap.size _ _ _ rfl rfl rfl (load_node _ _ zN (setRow_heap _ _ _ _ _ _ HG1.out.res) rfl)) rfl (refIs_bad rfl (HG1.out.bad _))
  · have hr := HR.out
    rw [if_neg (by omega), if_neg (by omega), if_pos hc] at hr
    subst hr
    clear HR IH
    have x0 : ((s[a].toNat : Int) == 40) = false := by rw [hc]; rfl
    have x1 : ((s[a].toNat : Int) == 91) = false := by rw [hc]; rfl
    have x2 : ((s[a].toNat : Int) == 46) = true := by rw [hc]; rfl
    clear hc
    go_enter Tryd.func69, Tryd.ntmps69
    go_wp2_with fail
    change Calls _ _ _ (w.alloc (.cells zN TN)) _
    generalize w.alloc (.cells zN TN) = W0 at *
    refine (rall_any W0).mono ?_
    rintro e w1 ⟨rfl, hb⟩
    have HG2 := Lib.hid (H0.out.on hb)
    have HD := Lib.hid (HG2.out.put (IsT.nil 2 (every).set) (nodeC (every) (.slice none 0 0)).toArray)
    have HA := Lib.hid (node_all (IsT.nil (w := w1) (p := fun _ => True) 2 (every).set))
    clear hb H0 x0 x1 x2
    simp only [nodeV]
    go_wp2_with (refine wpList_store_row rfl TN (.tmp 4) (.tmp 47) rfl w.heap.size (nodeC (every) (.slice none 0 0)).toArray rfl rfl TN zN HG2.out.res (by kernel_rfl) rfl HA.out ?_)
    exact bodyPost_ret (v := .tuple #[.agg (nodeC (every) (.slice none 0 0)).toArray, .int .i64 (a + 1), .bool true]) (results_rtt rfl _ _ w.heap.size _ _ _ rfl rfl rfl (load_node _ _ _ (setRow_heap _ _ _ _ _ _ HG2.out.res) rfl)) rfl (refIs_ok (t := every) (n := a + 1) rfl HD.out.1 HD.out.2)
  · have hr := HR.out
    rw [if_neg (by omega), if_neg (by omega), if_neg (by omega), if_neg (by omega), if_pos (by omega)] at hr
    subst hr
    clear HR IH
    have x0 : ((s[a].toNat : Int) == 40) = false := by rw [hc]; rfl
    have x1 : ((s[a].toNat : Int) == 91) = false := by rw [hc]; rfl
    have x2 : ((s[a].toNat : Int) == 46) = false := by rw [hc]; rfl
    have x3 : ((s[a].toNat : Int) == 42) = true := by rw [hc]; rfl
    clear hc
    go_enter Tryd.func69, Tryd.ntmps69
    simp only [zN] at H0
    go_wp2_with (refine wpList_store_row rfl TN (.tmp 4) (.tmp 55) rfl w.heap.size zN rfl rfl TN zN H0.out.res (by kernel_rfl) rfl (by simp [zN, Value.oneCell']) ?_)
    exact bodyPost_ret (v := .tuple #[.agg zN, .int .i64 a, .bool false]) (results_rtt rfl _ _ w.heap.size _ _ _ rfl rfl rfl (load_node _ _ zN (setRow_heap _ _ _ _ _ _ H0.out.res) rfl)) rfl (refIs_bad rfl (H0.out.bad _))
  · have hr := HR.out
    rw [if_neg (by omega), if_neg (by omega), if_neg (by omega), if_neg (by omega), if_pos (by omega)] at hr
    subst hr
    clear HR IH
    have x0 : ((s[a].toNat : Int) == 40) = false := by rw [hc]; rfl
    have x1 : ((s[a].toNat : Int) == 91) = false := by rw [hc]; rfl
    have x2 : ((s[a].toNat : Int) == 46) = false := by rw [hc]; rfl
    have x3 : ((s[a].toNat : Int) == 42) = false := by rw [hc]; rfl
    have x4 : ((s[a].toNat : Int) == 43) = true := by rw [hc]; rfl
    clear hc
    go_enter Tryd.func69, Tryd.ntmps69
    simp only [zN] at H0
    go_wp2_with (refine wpList_store_row rfl TN (.tmp 4) (.tmp 55) rfl w.heap.size zN rfl rfl TN zN H0.out.res (by kernel_rfl) rfl (by simp [zN, Value.oneCell']) ?_)
    exact bodyPost_ret (v := .tuple #[.agg zN, .int .i64 a, .bool false]) (results_rtt rfl _ _ w.heap.size _ _ _ rfl rfl rfl (load_node _ _ zN (setRow_heap _ _ _ _ _ _ H0.out.res) rfl)) rfl (refIs_bad rfl (H0.out.bad _))
  · have hr := HR.out
    rw [if_neg (by omega), if_neg (by omega), if_neg (by omega), if_neg (by omega), if_pos (by omega)] at hr
    subst hr
    clear HR IH
    have x0 : ((s[a].toNat : Int) == 40) = false := by rw [hc]; rfl
    have x1 : ((s[a].toNat : Int) == 91) = false := by rw [hc]; rfl
    have x2 : ((s[a].toNat : Int) == 46) = false := by rw [hc]; rfl
    have x3 : ((s[a].toNat : Int) == 42) = false := by rw [hc]; rfl
    have x4 : ((s[a].toNat : Int) == 43) = false := by rw [hc]; rfl
    have x5 : ((s[a].toNat : Int) == 63) = true := by rw [hc]; rfl
    clear hc
    go_enter Tryd.func69, Tryd.ntmps69
    simp only [zN] at H0
    go_wp2_with (refine wpList_store_row rfl TN (.tmp 4) (.tmp 55) rfl w.heap.size zN rfl rfl TN zN H0.out.res (by kernel_rfl) rfl (by simp [zN, Value.oneCell']) ?_)
    exact bodyPost_ret (v := .tuple #[.agg zN, .int .i64 a, .bool false]) (results_rtt rfl _ _ w.heap.size _ _ _ rfl rfl rfl (load_node _ _ zN (setRow_heap _ _ _ _ _ _ H0.out.res) rfl)) rfl (refIs_bad rfl (H0.out.bad _))
  · have hr := HR.out
    rw [if_neg (by omega), if_neg (by omega), if_neg (by omega), if_neg (by omega), if_pos (by omega)] at hr
    subst hr
    clear HR IH
    have x0 : ((s[a].toNat : Int) == 40) = false := by rw [hc]; rfl
    have x1 : ((s[a].toNat : Int) == 91) = false := by rw [hc]; rfl
    have x2 : ((s[a].toNat : Int) == 46) = false := by rw [hc]; rfl
    have x3 : ((s[a].toNat : Int) == 42) = false := by rw [hc]; rfl
    have x4 : ((s[a].toNat : Int) == 43) = false := by rw [hc]; rfl
    have x5 : ((s[a].toNat : Int) == 63) = false := by rw [hc]; rfl
    have x6 : ((s[a].toNat : Int) == 93) = true := by rw [hc]; rfl
    clear hc
    go_enter Tryd.func69, Tryd.ntmps69
    simp only [zN] at H0
    go_wp2_with (refine wpList_store_row rfl TN (.tmp 4) (.tmp 55) rfl w.heap.size zN rfl rfl TN zN H0.out.res (by kernel_rfl) rfl (by simp [zN, Value.oneCell']) ?_)
    exact bodyPost_ret (v := .tuple #[.agg zN, .int .i64 a, .bool false]) (results_rtt rfl _ _ w.heap.size _ _ _ rfl rfl rfl (load_node _ _ zN (setRow_heap _ _ _ _ _ _ H0.out.res) rfl)) rfl (refIs_bad rfl (H0.out.bad _))
  · have hr := HR.out
    rw [if_neg (by omega), if_neg (by omega), if_neg (by omega), if_pos hc] at hr
    have HR1 := Lib.hid hr
    clear hr HR IH
    have x0 : ((s[a].toNat : Int) == 40) = false := by rw [hc]; rfl
    have x1 : ((s[a].toNat : Int) == 91) = false := by rw [hc]; rfl
    have x2 : ((s[a].toNat : Int) == 46) = false := by rw [hc]; rfl
    have x3 : ((s[a].toNat : Int) == 42) = false := by rw [hc]; rfl
    have x4 : ((s[a].toNat : Int) == 43) = false := by rw [hc]; rfl
    have x5 : ((s[a].toNat : Int) == 63) = false := by rw [hc]; rfl
    have x6 : ((s[a].toNat : Int) == 93) = false := by rw [hc]; rfl
    have x7 : ((s[a].toNat : Int) == 92) = true := by rw [hc]; rfl
    clear hc
    rcases hd : s.data.toList[a + 1]? with _ | d
    · have hr := HR1.out
      rw [hd] at hr
      subst hr
      have hge := byte_none s (a + 1) hd
      have h2 : ((a : Int) + 1 == (s.size : Int)) = true := by rw [beq_iff_eq]; omega
      clear hge hd HR1
      go_enter Tryd.func69, Tryd.ntmps69
      simp only [zN] at H0
      go_wp2_with (refine wpList_store_row rfl TN (.tmp 4) (.tmp 64) rfl w.heap.size zN rfl rfl TN zN H0.out.res (by kernel_rfl) rfl (by simp [zN, Value.oneCell']) ?_)
      exact bodyPost_ret (v := .tuple #[.agg zN, .int .i64 (a + 1), .bool false]) (results_rtt rfl _ _ w.heap.size _ _ _ rfl rfl rfl (load_node _ _ zN (setRow_heap _ _ _ _ _ _ H0.out.res) rfl)) rfl (refIs_bad (k := a + 1) rfl (H0.out.bad _))
    have hr := HR1.out
    rw [hd] at hr
    subst hr
    obtain ⟨hl2, rfl⟩ := byte_at s (a + 1) d hd
    have h2 : ((a : Int) + 1 == (s.size : Int)) = false := by rw [beq_eq_false_iff_ne]; omega
    have hl3 : (a : Int) + 1 < s.size := by omega
    clear hd HR1
    go_enter Tryd.func69, Tryd.ntmps69
    go_wp2_with fail
    change Calls _ _ _ (w.alloc (.cells zN TN)) _
    generalize w.alloc (.cells zN TN) = W0 at *
    refine (rone_any s[a + 1].toNat s[a + 1].toNat_lt W0).mono ?_
    rintro e w1 ⟨rfl, hb⟩
    have HG2 := Lib.hid (H0.out.on hb)
    have HD := Lib.hid (HG2.out.put (IsT.nil 2 (one s[a + 1].toNat).set) (nodeC (one s[a + 1].toNat) (.slice none 0 0)).toArray)
    have HA := Lib.hid (node_all (IsT.nil (w := w1) (p := fun _ => True) 2 (one s[a + 1].toNat).set))
    clear hb H0 x0 x1 x2 x3 x4 x5 x6 x7
    simp only [nodeV]
    go_wp2_with (refine wpList_store_row rfl TN (.tmp 4) (.tmp 71) rfl w.heap.size (nodeC (one s[a + 1].toNat) (.slice none 0 0)).toArray rfl rfl TN zN HG2.out.res (by kernel_rfl) rfl HA.out ?_)
    exact bodyPost_ret (v := .tuple #[.agg (nodeC (one s[a + 1].toNat) (.slice none 0 0)).toArray, .int .i64 (a + 2), .bool true]) (results_rtt rfl _ _ w.heap.size _ _ _ rfl rfl rfl (load_node _ _ _ (setRow_heap _ _ _ _ _ _ HG2.out.res) rfl)) rfl (refIs_ok (t := one s[a + 1].toNat) (n := a + 2) rfl HD.out.1 HD.out.2)
  · have hr := HR.out
    rw [if_neg (by omega), if_neg (by omega), if_neg (by omega), if_neg (by omega), if_neg (by omega)] at hr
    subst hr
    clear HR IH
    have x0 : ((s[a].toNat : Int) == 40) = false := by rw [beq_eq_false_iff_ne]; omega
    have x1 : ((s[a].toNat : Int) == 91) = false := by rw [beq_eq_false_iff_ne]; omega
    have x2 : ((s[a].toNat : Int) == 46) = false := by rw [beq_eq_false_iff_ne]; omega
    have x3 : ((s[a].toNat : Int) == 42) = false := by rw [beq_eq_false_iff_ne]; omega
    have x4 : ((s[a].toNat : Int) == 43) = false := by rw [beq_eq_false_iff_ne]; omega
    have x5 : ((s[a].toNat : Int) == 63) = false := by rw [beq_eq_false_iff_ne]; omega
    have x6 : ((s[a].toNat : Int) == 93) = false := by rw [beq_eq_false_iff_ne]; omega
    have x7 : ((s[a].toNat : Int) == 92) = false := by rw [beq_eq_false_iff_ne]; omega
    clear hc
    go_enter Tryd.func69, Tryd.ntmps69
    go_wp2_with fail
    change Calls _ _ _ (w.alloc (.cells zN TN)) _
    generalize w.alloc (.cells zN TN) = W0 at *
    refine (rone_any s[a].toNat s[a].toNat_lt W0).mono ?_
    rintro e w1 ⟨rfl, hb⟩
    have HG2 := Lib.hid (H0.out.on hb)
    have HD := Lib.hid (HG2.out.put (IsT.nil 2 (one s[a].toNat).set) (nodeC (one s[a].toNat) (.slice none 0 0)).toArray)
    have HA := Lib.hid (node_all (IsT.nil (w := w1) (p := fun _ => True) 2 (one s[a].toNat).set))
    clear hb H0 x0 x1 x2 x3 x4 x5 x6 x7
    simp only [nodeV]
    go_wp2_with (refine wpList_store_row rfl TN (.tmp 4) (.tmp 77) rfl w.heap.size (nodeC (one s[a].toNat) (.slice none 0 0)).toArray rfl rfl TN zN HG2.out.res (by kernel_rfl) rfl HA.out ?_)
    exact bodyPost_ret (v := .tuple #[.agg (nodeC (one s[a].toNat) (.slice none 0 0)).toArray, .int .i64 (a + 1), .bool true]) (results_rtt rfl _ _ w.heap.size _ _ _ rfl rfl rfl (load_node _ _ _ (setRow_heap _ _ _ _ _ _ HG2.out.res) rfl)) rfl (refIs_ok (t := one s[a].toNat) (n := a + 1) rfl HD.out.1 HD.out.2)

/-- all of them -/
theorem rread_all : ∀ F : Nat, RAltsC F ∧ RRowC F ∧ RAtomC F := by
  intro F
  induction F using Nat.strongRecOn with
  | ind F ih =>
    exact ⟨ralts_step F fun f hf => (ih f hf).2.1, rrow_step F fun f hf => (ih f hf).2.2, ratom_step F fun f hf => (ih f hf).1⟩
theorem ralts_any (s : ByteArray) (w : World) (hs : s.size ≤ 100000) :
    Calls Tryd.prog 47 #[.string s, .int .i64 0] w (RefIs w (alts (3 * s.size + 3) s.data.toList 0 [])) :=
  (rread_all _).1 s 0 w (by omega) hs (by omega)
end Go.Proofs.YtfhggnbnbopkkaaDoor

namespace Go.Proofs.YtfhggnbnbopkkaaDoor
open Go.RowKit PM
attribute [local go_sem] nodeC

/-- what Tree holds: its box, its two results -/
structure RT (kind : Int) (s : ByteArray) (w wr : World) (X Y : Array Value) : Prop where
  box : wr.heap[w.heap.size]? = some (.cells #[.int .i64 kind, .string s] TPat (0, 0))
  res : wr.heap[w.heap.size + 1]? = some (.cells X TN (0, 0))
  spot : wr.heap[w.heap.size + 2]? = some (.cells Y TSp (0, 0))
  up : Below w.heap.size w wr
theorem RT.on {kind : Int} {s : ByteArray} {w wr w' : World} {X Y : Array Value} (h : RT kind s w wr X Y) (hb : Below wr.heap.size wr w') : RT kind s w w' X Y :=
  ⟨(hb.block _ (lt_of_block h.box)).trans h.box, (hb.block _ (lt_of_block h.res)).trans h.res, (hb.block _ (lt_of_block h.spot)).trans h.spot, below_then h.up hb (Nat.le_refl _)⟩
theorem RT.put {kind : Int} {s : ByteArray} {w wr : World} {X Y : Array Value} (h : RT kind s w wr X Y) (X' : Array Value) : RT kind s w (wr.setRow (w.heap.size + 1) X') X' Y :=
  ⟨(setRow_other _ _ _ _ (by omega)).trans h.box, setRow_heap _ _ _ _ _ _ h.res, (setRow_other _ _ _ _ (by omega)).trans h.spot, h.up.trans (below_rowB _ _ _ _ (by omega))⟩
theorem RT.putS {kind : Int} {s : ByteArray} {w wr : World} {X Y : Array Value} (h : RT kind s w wr X Y) (Y' : Array Value) : RT kind s w (wr.setRow (w.heap.size + 2) Y') X Y' :=
  ⟨(setRow_other _ _ _ _ (by omega)).trans h.box, (setRow_other _ _ _ _ (by omega)).trans h.res, setRow_heap _ _ _ _ _ _ h.spot, h.up.trans (below_rowB _ _ _ _ (by omega))⟩
theorem RT.c0 {kind : Int} {s : ByteArray} {w wr : World} {X Y : Array Value} (h : RT kind s w wr X Y) : wr.cell? ⟨w.heap.size, 0, none⟩ = some (.int .i64 kind) := by rw [cell_of_row wr _ 0 _ _ _ h.box]; rfl
theorem RT.c1 {kind : Int} {s : ByteArray} {w wr : World} {X Y : Array Value} (h : RT kind s w wr X Y) : wr.cell? ⟨w.heap.size, 1, none⟩ = some (.string s) := by rw [cell_of_row wr _ 1 _ _ _ h.box]; rfl
def rtW (kind : Int) (s : ByteArray) (w : World) : World := ((w.alloc (.cells #[.int .i64 kind, .string s] TPat)).alloc (.cells zN TN)).alloc (.cells #[.int .i64 0, .int .i64 0] TSp)
theorem rtW_facts (kind : Int) (s : ByteArray) (w : World) : RT kind s w (rtW kind s w) zN #[.int .i64 0, .int .i64 0] := by
  have b1 := below_new w (.cells #[.int .i64 kind, .string s] TPat)
  have b2 := below_new (w.alloc (.cells #[.int .i64 kind, .string s] TPat)) (.cells zN TN)
  have b3 := below_new ((w.alloc (.cells #[.int .i64 kind, .string s] TPat)).alloc (.cells zN TN)) (.cells #[.int .i64 0, .int .i64 0] TSp)
  have h1 := heap_alloc_new w (.cells #[.int .i64 kind, .string s] TPat)
  have h2 := heap_alloc_new (w.alloc (.cells #[.int .i64 kind, .string s] TPat)) (.cells zN TN)
  have h3 := heap_alloc_new ((w.alloc (.cells #[.int .i64 kind, .string s] TPat)).alloc (.cells zN TN)) (.cells #[.int .i64 0, .int .i64 0] TSp)
  simp only [World.size_alloc] at b2 b3 h2 h3
  exact ⟨(b3.block _ (by omega)).trans ((b2.block _ (by omega)).trans h1), (b3.block _ (by omega)).trans h2, h3, (b1.trans (b2.mono (by omega))).trans (b3.mono (by omega))⟩
/-- a tree handed back -/
theorem RT.done {kind : Int} {s : ByteArray} {w wr : World} {X Y : Array Value} {t : T} {K : Value} (h : RT kind s w wr X Y) (hK : IsT wr (fun b => w.heap.size + 3 ≤ b) K t) :
    TreeIs w (.ok t) (.returned (.tuple #[.agg (nodeC t K).toArray, .agg #[.int .i64 0, .int .i64 0]])) ((wr.setRow (w.heap.size + 1) (nodeC t K).toArray).setRow (w.heap.size + 2) #[.int .i64 0, .int .i64 0]) :=
  ⟨K, rfl, (((hK.grown (grown_row wr (w.heap.size + 1) _) (fun b hb e => by cases e; omega)).grown (grown_row _ (w.heap.size + 2) _) (fun b hb e => by cases e; omega))).imp fun b hb _ => by omega, ((h.put _).putS _).up⟩
theorem RT.sz {kind : Int} {s : ByteArray} {w wr : World} {X Y : Array Value} (h : RT kind s w wr X Y) : w.heap.size + 3 ≤ wr.heap.size := lt_of_block h.spot

theorem results_rows {fn : Func} {p1 p2 : Tmp} (h : fn.results = #[.cell p1 TN, .cell p2 TSp]) (tmps : Array Value) (W : World) (b1 b2 : Nat) (X Y : Array Value)
    (h1 : tmps.getD p1 undef = .pointer (some ⟨b1, 0, none⟩)) (h2 : tmps.getD p2 undef = .pointer (some ⟨b2, 0, none⟩)) (l1 : W.heap[b1]? = some (.cells X TN (0, 0))) (hX : X.size = 6) (l2 : W.heap[b2]? = some (.cells Y TSp (0, 0))) (hY : Y.size = 2) :
    (results fn tmps).run Tryd.prog W = .ok (.tuple #[.agg X, .agg Y]) W :=
  results_rows2 h tmps W b1 b2 _ _ h1 h2 (load_node W b1 X l1 hX) (load_spot W b2 Y l2 hY)

set_option maxRecDepth 100000 in
set_option maxHeartbeats 16000000 in
theorem rtree_any (kind : Int) (s : ByteArray) (w : World) (hs : s.size ≤ 9223372036854775807) :
    Calls Tryd.prog 30 #[.agg #[.int .i64 kind, .string s]] w (TreeIs w (tree kind s.data.toList)) := by
  have hsl : s.data.toList.length = s.size := rfl
  obtain ⟨r, hr⟩ : ∃ r, tree kind s.data.toList = r := ⟨_, rfl⟩
  rw [hr]
  have hT := rtW_facts kind s w
  have HT := Lib.hid hT
  have c0 := hT.c0; have c1 := hT.c1
  clear hT
  unfold tree at hr
  by_cases hk : kind < 1 ∨ 3 < kind
  · rw [if_pos hk] at hr
    subst hr
    have x1 : (kind != 1) = true := by rw [bne_iff_ne]; omega
    have x2 : (kind != 2) = true := by rw [bne_iff_ne]; omega
    have x3 : (kind != 3) = true := by rw [bne_iff_ne]; omega
    have HP := Lib.hid (HT.out.put zN)
    clear hk hsl
    go_enter Tryd.func30, Tryd.ntmps30
    go_upto_region 1 with (fail)
    change Code.wp _ _ _ _ (rtW kind s w)
    generalize rtW kind s w = W0 at *
    go_wp2_with (first | (refine wpList_store_row rfl TN (.tmp 2) (.tmp 22) rfl (w.heap.size + 1) zN rfl rfl TN zN HT.out.res (by kernel_rfl) rfl (by simp [zN, Value.oneCell']) ?_) | (refine wpList_store_row rfl TSp (.tmp 3) (.tmp 23) rfl (w.heap.size + 2) #[.int .i64 2, .int .i64 0] rfl rfl TSp _ HP.out.spot (by kernel_rfl) rfl (by simp [Value.oneCell']) ?_))
    have HQ := Lib.hid (HP.out.putS #[.int .i64 2, .int .i64 0])
    exact bodyPost_ret (v := .tuple #[.agg zN, .agg #[.int .i64 2, .int .i64 0]]) (results_rows rfl _ _ (w.heap.size + 1) (w.heap.size + 2) _ _ rfl rfl HQ.out.res rfl HQ.out.spot rfl) rfl ⟨rfl, HQ.out.up⟩
  rw [if_neg hk] at hr
  by_cases hl : 64 < s.size
  · rw [hsl, if_pos hl] at hr
    subst hr
    have hl2 : (64 : Int) < s.size := by omega
    have HP := Lib.hid (HT.out.put zN)
    have hk3 : kind = 1 ∨ kind = 2 ∨ kind = 3 := by omega
    clear hk hsl
    rcases hk3 with rfl | rfl | rfl
    all_goals
      go_enter Tryd.func30, Tryd.ntmps30
      go_upto_region 1 with (fail)
      first | change Code.wp _ _ _ _ (rtW 1 s w) | change Code.wp _ _ _ _ (rtW 2 s w) | change Code.wp _ _ _ _ (rtW 3 s w)
      first | generalize rtW 1 s w = W0 at * | generalize rtW 2 s w = W0 at * | generalize rtW 3 s w = W0 at *
      go_wp2_with (first | (refine wpList_store_row rfl TN (.tmp 2) (.tmp 28) rfl (w.heap.size + 1) zN rfl rfl TN zN HT.out.res (by kernel_rfl) rfl (by simp [zN, Value.oneCell']) ?_) | (refine wpList_store_row rfl TSp (.tmp 3) (.tmp 29) rfl (w.heap.size + 2) #[.int .i64 3, .int .i64 64] rfl rfl TSp _ HP.out.spot (by kernel_rfl) rfl (by simp [Value.oneCell']) ?_))
      have HQ := Lib.hid (HP.out.putS #[.int .i64 3, .int .i64 64])
      exact bodyPost_ret (v := .tuple #[.agg zN, .agg #[.int .i64 3, .int .i64 64]]) (results_rows rfl _ _ (w.heap.size + 1) (w.heap.size + 2) _ _ rfl rfl HQ.out.res rfl HQ.out.spot rfl) rfl ⟨rfl, HQ.out.up⟩
  rw [hsl, if_neg hl] at hr
  have hl2 : (s.size : Int) ≤ 64 := by omega
  have hk3 : kind = 1 ∨ kind = 2 ∨ kind = 3 := by omega
  clear hk hsl
  rcases hk3 with rfl | rfl | rfl
  · rw [if_pos rfl] at hr
    have HR := Lib.hid hr
    clear hr
    go_enter Tryd.func30, Tryd.ntmps30
    go_upto_region 1 with (fail)
    change Code.wp _ _ _ _ (rtW 1 s w)
    generalize rtW 1 s w = W0 at *
    go_wp2_with fail
    clear c0 c1
    refine (rliteral_any s W0 (by omega)).mono ?_
    rintro e w1 ⟨K, rfl, hK, hb⟩
    have HT1 := Lib.hid (HT.out.on hb)
    have hsz := HT.out.sz
    have hr := HR.out
    generalize joined 3 (s.data.toList.map fun c => one c.toNat) = t at *
    subst hr
    have HK := Lib.hid (hK.imp fun b hb2 _ => Nat.le_trans hsz hb2)
    have HA := Lib.hid (node_all hK)
    have HP := Lib.hid (HT1.out.put (nodeC t K).toArray)
    clear hK hb hsz HR HT
    go_wp2_with (first | (refine wpList_store_row rfl TN (.tmp 2) (.tmp 35) rfl (w.heap.size + 1) (nodeC t K).toArray rfl rfl TN zN HT1.out.res (by kernel_rfl) rfl HA.out ?_) | (refine wpList_store_row rfl TSp (.tmp 3) (.tmp 36) rfl (w.heap.size + 2) #[.int .i64 0, .int .i64 0] rfl rfl TSp _ HP.out.spot (by kernel_rfl) rfl (by simp [Value.oneCell']) ?_))
    have HQ := Lib.hid (HP.out.putS #[.int .i64 0, .int .i64 0])
    exact bodyPost_ret (v := .tuple #[.agg (nodeC t K).toArray, .agg #[.int .i64 0, .int .i64 0]]) (results_rows rfl _ _ (w.heap.size + 1) (w.heap.size + 2) _ _ rfl rfl HQ.out.res rfl HQ.out.spot rfl) rfl (HT1.out.done HK.out)
  · rw [if_neg (by omega), if_pos rfl] at hr
    have HR := Lib.hid hr
    clear hr
    go_enter Tryd.func30, Tryd.ntmps30
    go_upto_region 1 with (fail)
    change Code.wp _ _ _ _ (rtW 2 s w)
    generalize rtW 2 s w = W0 at *
    go_wp2_with fail
    clear c0 c1
    refine (rglob_any s W0 (by omega)).mono ?_
    rintro e w1 hm
    have hr := HR.out
    rcases hg : globL s.data.toList with _ | l
    · rw [hg] at hm hr
      obtain ⟨rfl, hb⟩ := hm
      subst hr
      have HT2 := Lib.hid ((HT.out.on hb).on (below_new w1 (.cells zN TN)))
      clear hb HT HR hg
      simp only [zN]
      go_upto_region 9 with (fail)
      change Code.wp _ _ _ _ (w1.alloc (.cells zN TN))
      generalize w1.alloc (.cells zN TN) = w2 at *
      have c1 := HT2.out.c1
      go_wp2_with fail
      clear c1
      refine (bad_any s.size w2).mono ?_
      rintro e w3 ⟨rfl, hb⟩
      have HT3 := Lib.hid (HT2.out.on hb)
      have HP := Lib.hid (HT3.out.put zN)
      clear hb HT2
      simp only [spotV, spotC]
      go_wp2_with (first | (refine wpList_store_row rfl TN (.tmp 2) (.tmp 48) rfl (w.heap.size + 1) zN rfl rfl TN zN HT3.out.res (by kernel_rfl) rfl (by simp [zN, Value.oneCell']) ?_) | (refine wpList_store_row rfl TSp (.tmp 3) (.tmp 52) rfl (w.heap.size + 2) #[.int .i64 6, .int .i64 s.size] rfl rfl TSp _ HP.out.spot (by kernel_rfl) rfl (by simp [Value.oneCell']) ?_))
      have HQ := Lib.hid (HP.out.putS #[.int .i64 6, .int .i64 s.size])
      exact bodyPost_ret (v := .tuple #[.agg zN, .agg #[.int .i64 6, .int .i64 s.size]]) (results_rows rfl _ _ (w.heap.size + 1) (w.heap.size + 2) _ _ rfl rfl HQ.out.res rfl HQ.out.spot rfl) rfl ⟨rfl, HQ.out.up⟩
    · rw [hg] at hm hr
      obtain ⟨K, rfl, hK, hb⟩ := hm
      simp only [] at hr
      generalize joined 3 l = t at *
      subst hr
      obtain ⟨A, c, rfl⟩ := hK.slice
      have hsz := HT.out.sz
      have hb2 := below_new w1 (.cells #[.int .i64 t.op, .int .u64 (word t.set 0), .int .u64 (word t.set 1), .int .u64 (word t.set 2), .int .u64 (word t.set 3), .slice A t.kids.length c] TN)
      have hN := NodAt.made w1 t (.slice A t.kids.length c)
      have HT2 := Lib.hid ((HT.out.on hb).on hb2)
      have HK := Lib.hid ((hK.imp (q := fun b => w.heap.size + 3 ≤ b) fun b hb2 _ => Nat.le_trans hsz hb2).on hb2)
      have HA := Lib.hid (node_all hK)
      obtain ⟨k0, k1, k2, k3, k4, k5⟩ := hN.cells
      clear hb hb2 hN hK hsz HT HR hg
      simp only [nodeV]
      go_upto_region 9 with (fail)
      generalize w1.alloc (.cells #[.int .i64 t.op, .int .u64 (word t.set 0), .int .u64 (word t.set 1), .int .u64 (word t.set 2), .int .u64 (word t.set 3), .slice A t.kids.length c] TN) = w2 at *
      generalize w1.heap.size = B4 at *
      have HP := Lib.hid (HT2.out.put (nodeC t (.slice A t.kids.length c)).toArray)
      go_wp2_with (first | (refine wpList_store_row rfl TN (.tmp 2) (.tmp 53) rfl (w.heap.size + 1) (nodeC t (.slice A t.kids.length c)).toArray rfl rfl TN zN HT2.out.res (by kernel_rfl) rfl HA.out ?_) | (refine wpList_store_row rfl TSp (.tmp 3) (.tmp 54) rfl (w.heap.size + 2) #[.int .i64 0, .int .i64 0] rfl rfl TSp _ HP.out.spot (by kernel_rfl) rfl (by simp [Value.oneCell']) ?_))
      have HQ := Lib.hid (HP.out.putS #[.int .i64 0, .int .i64 0])
      exact bodyPost_ret (v := .tuple #[.agg (nodeC t (.slice A t.kids.length c)).toArray, .agg #[.int .i64 0, .int .i64 0]]) (results_rows rfl _ _ (w.heap.size + 1) (w.heap.size + 2) _ _ rfl rfl HQ.out.res rfl HQ.out.spot rfl) rfl (HT2.out.done HK.out)
  · rw [if_neg (by omega), if_neg (by omega)] at hr
    have HR := Lib.hid hr
    clear hr
    go_enter Tryd.func30, Tryd.ntmps30
    go_upto_region 1 with (fail)
    change Code.wp _ _ _ _ (rtW 3 s w)
    generalize rtW 3 s w = W0 at *
    go_wp2_with fail
    clear c0 c1
    refine (ralts_any s W0 (by omega)).mono ?_
    rintro e w1 hm
    have hr := HR.out
    have hsl : s.data.toList.length = s.size := rfl
    rcases hg : alts (3 * s.size + 3) s.data.toList 0 [] with ⟨t, n⟩ | k
    · rw [hg] at hm hr
      obtain ⟨K, rfl, hK, hb⟩ := hm
      simp only [] at hr
      have hpos := (read_pos s.data.toList _).1 _ _ _ _ hg (by omega)
      obtain ⟨A, c, rfl⟩ := hK.slice
      have hsz := HT.out.sz
      have hb2 := below_new w1 (.cells #[.int .i64 t.op, .int .u64 (word t.set 0), .int .u64 (word t.set 1), .int .u64 (word t.set 2), .int .u64 (word t.set 3), .slice A t.kids.length c] TN)
      have hN := NodAt.made w1 t (.slice A t.kids.length c)
      have HT2 := Lib.hid ((HT.out.on hb).on hb2)
      have HK := Lib.hid ((hK.imp (q := fun b => w.heap.size + 3 ≤ b) fun b hb2 _ => Nat.le_trans hsz hb2).on hb2)
      have HA := Lib.hid (node_all hK)
      have HR2 := Lib.hid hr
      obtain ⟨k0, k1, k2, k3, k4, k5⟩ := hN.cells
      have hnl : n ≤ s.size := hpos.2.1
      clear hb hb2 hN hK hsz HT HR hg hr hpos hsl
      simp only [nodeV]
      go_upto_region 13 with (fail)
      generalize w1.alloc (.cells #[.int .i64 t.op, .int .u64 (word t.set 0), .int .u64 (word t.set 1), .int .u64 (word t.set 2), .int .u64 (word t.set 3), .slice A t.kids.length c] TN) = w2 at *
      generalize w1.heap.size = B4 at *
      have c1 := HT2.out.c1
      by_cases hlt : n < s.size
      · have hr := HR2.out
        rw [if_pos hlt] at hr
        subst hr
        have hlt2 : (n : Int) < s.size := by omega
        clear HR2 k0 k1 k2 k3 k4 k5
        go_wp2_with fail
        clear c1
        refine (bad_any n w2).mono ?_
        rintro e w3 ⟨rfl, hb⟩
        have HT3 := Lib.hid (HT2.out.on hb)
        have HP := Lib.hid (HT3.out.put zN)
        clear hb HT2
        simp only [spotV, spotC]
        go_wp2_with (first | (refine wpList_store_row rfl TN (.tmp 2) (.tmp 71) rfl (w.heap.size + 1) zN rfl rfl TN zN HT3.out.res (by kernel_rfl) rfl (by simp [zN, Value.oneCell']) ?_) | (refine wpList_store_row rfl TSp (.tmp 3) (.tmp 73) rfl (w.heap.size + 2) #[.int .i64 6, .int .i64 n] rfl rfl TSp _ HP.out.spot (by kernel_rfl) rfl (by simp [Value.oneCell']) ?_))
        have HQ := Lib.hid (HP.out.putS #[.int .i64 6, .int .i64 n])
        exact bodyPost_ret (v := .tuple #[.agg zN, .agg #[.int .i64 6, .int .i64 n]]) (results_rows rfl _ _ (w.heap.size + 1) (w.heap.size + 2) _ _ rfl rfl HQ.out.res rfl HQ.out.spot rfl) rfl ⟨rfl, HQ.out.up⟩
      · have hr := HR2.out
        rw [if_neg hlt] at hr
        subst hr
        have hlt2 : (s.size : Int) ≤ n := by omega
        have HP := Lib.hid (HT2.out.put (nodeC t (.slice A t.kids.length c)).toArray)
        clear HR2
        go_wp2_with (first | (refine wpList_store_row rfl TN (.tmp 2) (.tmp 74) rfl (w.heap.size + 1) (nodeC t (.slice A t.kids.length c)).toArray rfl rfl TN zN HT2.out.res (by kernel_rfl) rfl HA.out ?_) | (refine wpList_store_row rfl TSp (.tmp 3) (.tmp 75) rfl (w.heap.size + 2) #[.int .i64 0, .int .i64 0] rfl rfl TSp _ HP.out.spot (by kernel_rfl) rfl (by simp [Value.oneCell']) ?_))
        have HQ := Lib.hid (HP.out.putS #[.int .i64 0, .int .i64 0])
        exact bodyPost_ret (v := .tuple #[.agg (nodeC t (.slice A t.kids.length c)).toArray, .agg #[.int .i64 0, .int .i64 0]]) (results_rows rfl _ _ (w.heap.size + 1) (w.heap.size + 2) _ _ rfl rfl HQ.out.res rfl HQ.out.spot rfl) rfl (HT2.out.done HK.out)
    · rw [hg] at hm hr
      obtain ⟨rfl, hb⟩ := hm
      simp only [] at hr
      subst hr
      have HT2 := Lib.hid ((HT.out.on hb).on (below_new w1 (.cells zN TN)))
      clear hb HT HR hg hsl
      simp only [zN]
      go_upto_region 13 with (fail)
      change Code.wp _ _ _ _ (w1.alloc (.cells zN TN))
      generalize w1.alloc (.cells zN TN) = w2 at *
      go_wp2_with fail
      refine (bad_any k w2).mono ?_
      rintro e w3 ⟨rfl, hb⟩
      have HT3 := Lib.hid (HT2.out.on hb)
      have HP := Lib.hid (HT3.out.put zN)
      clear hb HT2
      simp only [spotV, spotC]
      go_wp2_with (first | (refine wpList_store_row rfl TN (.tmp 2) (.tmp 71) rfl (w.heap.size + 1) zN rfl rfl TN zN HT3.out.res (by kernel_rfl) rfl (by simp [zN, Value.oneCell']) ?_) | (refine wpList_store_row rfl TSp (.tmp 3) (.tmp 73) rfl (w.heap.size + 2) #[.int .i64 6, .int .i64 k] rfl rfl TSp _ HP.out.spot (by kernel_rfl) rfl (by simp [Value.oneCell']) ?_))
      have HQ := Lib.hid (HP.out.putS #[.int .i64 6, .int .i64 k])
      exact bodyPost_ret (v := .tuple #[.agg zN, .agg #[.int .i64 6, .int .i64 k]]) (results_rows rfl _ _ (w.heap.size + 1) (w.heap.size + 2) _ _ rfl rfl HQ.out.res rfl HQ.out.spot rfl) rfl ⟨rfl, HQ.out.up⟩
end Go.Proofs.YtfhggnbnbopkkaaDoor

namespace Go.Proofs.YtfhggnbnbopkkaaDoor
open Go.RowKit PM

/-- the document's Tree: a tree, or an error -/
theorem rtree_or (kind : Int) (s : ByteArray) (w : World) (hs : s.size ≤ 9223372036854775807) :
    Calls Tryd.prog 30 #[.agg #[.int .i64 kind, .string s]] w fun e w' =>
      (∃ t A c, tree kind s.data.toList = .ok t ∧ e = .returned (.tuple #[.agg #[.int .i64 t.op, .int .u64 (word t.set 0), .int .u64 (word t.set 1), .int .u64 (word t.set 2), .int .u64 (word t.set 3), .slice A t.kids.length c], .agg #[.int .i64 0, .int .i64 0]]) ∧
        IsT w' (fun b => w.heap.size ≤ b) (.slice A t.kids.length c) t ∧ Below w.heap.size w w') ∨
      (∃ x k : Nat, (x = 2 ∨ x = 3 ∨ x = 6) ∧ (∀ t, tree kind s.data.toList ≠ .ok t) ∧ e = .returned (.tuple #[.agg #[.int .i64 0, .int .u64 0, .int .u64 0, .int .u64 0, .int .u64 0, .slice none 0 0], .agg #[.int .i64 x, .int .i64 k]]) ∧ Below w.heap.size w w') := by
  refine (rtree_any kind s w hs).mono fun e w' h => ?_
  cases hr : tree kind s.data.toList with
  | ok t =>
    rw [hr] at h
    obtain ⟨K, rfl, hK, hb⟩ := h
    obtain ⟨A, c, rfl⟩ := hK.slice
    exact .inl ⟨t, A, c, rfl, rfl, hK, hb⟩
  | arg => rw [hr] at h; obtain ⟨rfl, hb⟩ := h; exact .inr ⟨2, 0, .inl rfl, (by intro t e; cases e), rfl, hb⟩
  | long => rw [hr] at h; obtain ⟨rfl, hb⟩ := h; exact .inr ⟨3, 64, .inr (.inl rfl), (by intro t e; cases e), rfl, hb⟩
  | bad k => rw [hr] at h; obtain ⟨rfl, hb⟩ := h; exact .inr ⟨6, k, .inr (.inr rfl), (by intro t e; cases e), rfl, hb⟩

set_option maxRecDepth 100000 in
set_option maxHeartbeats 8000000 in
theorem rempty_any (kind : Int) (s : ByteArray) (w : World) (hs : s.size ≤ 9223372036854775807) :
    Calls Tryd.prog 33 #[.agg #[.int .i64 kind, .string s]] w fun e w' => e = .returned (.bool (emptyP kind s.data.toList)) ∧ Below w.heap.size w w' := by
  have H0 := Lib.hid (below_new w (.cells #[.int .i64 kind, .string s] TPat))
  go_enter Tryd.func33, Tryd.ntmps33
  go_wp2_with fail
  generalize w.alloc (.cells #[.int .i64 kind, .string s] TPat) = w1 at *
  refine (rtree_or kind s w1 hs).mono ?_
  rintro e w2 (⟨t, A, c, ht, rfl, hK, hb⟩ | ⟨x, k, hx, hno, rfl, hb⟩)
  · have HP : Hid (emptyP kind s.data.toList = emptyT t) := Lib.hid (by unfold emptyP; rw [ht])
    have HOK := Lib.hid (tree_ok ht).1
    have H2 := Lib.hid (below_then H0.out hb (Nat.le_refl _))
    clear ht hb H0
    go_upto_region 2 with (fail)
    obtain ⟨hA, hAB⟩ := TrAt.made hK
    have HA := Lib.hid hA; have H3 := Lib.hid (below_then H2.out hAB (Nat.le_refl _))
    clear hA hAB hK H2
    generalize (w2.alloc (.cells #[.int .i64 t.op, .int .u64 (word t.set 0), .int .u64 (word t.set 1), .int .u64 (word t.set 2), .int .u64 (word t.set 3), .slice A t.kids.length c] TN)).alloc (.cells #[.int .i64 0, .int .i64 0] TSp) = w3 at *
    generalize w2.heap.size = B at *
    obtain ⟨r0, r1⟩ := HA.out.err
    obtain ⟨k0, k1, k2, k3, k4, k5⟩ := HA.out.cells
    go_wp2_with fail
    have hC := nothing_any 100 (by omega) t HOK.out _ _ w3 HA.out.tree
    simp only [nodeV, nodeC] at hC
    refine hC.mono ?_
    rintro e w4 ⟨rfl, hb⟩
    have H4 := Lib.hid (below_then H3.out hb (Nat.le_refl _))
    clear hb hC k0 k1 k2 k3 k4 k5 r0 r1
    go_wp2_with fail
    go_ret
    exact ⟨by rw [HP.out]; rfl, H4.out⟩
  · have HP : Hid (emptyP kind s.data.toList = false) := Lib.hid (by
      unfold emptyP
      split
      · rename_i t h; exact absurd h (hno t)
      · rfl)
    have H2 := Lib.hid (below_then H0.out hb (Nat.le_refl _))
    have HX := Lib.hid hx
    clear hb hx H0 hno
    go_upto_region 2 with (fail)
    have hs := spot_made w2 (.cells #[.int .i64 0, .int .u64 0, .int .u64 0, .int .u64 0, .int .u64 0, .slice none 0 0] TN) #[.int .i64 x, .int .i64 k]
    have hAB := two_below w2 (.cells #[.int .i64 0, .int .u64 0, .int .u64 0, .int .u64 0, .int .u64 0, .slice none 0 0] TN) (.cells #[.int .i64 x, .int .i64 k] TSp)
    have H3 := Lib.hid (below_then H2.out hAB (Nat.le_refl _))
    generalize (w2.alloc (.cells #[.int .i64 0, .int .u64 0, .int .u64 0, .int .u64 0, .int .u64 0, .slice none 0 0] TN)).alloc (.cells #[.int .i64 x, .int .i64 k] TSp) = w3 at *
    have r1 := spot_cell hs
    have x0 : ((x : Int) == 0) = false := by rw [beq_eq_false_iff_ne]; have := HX.out; omega
    clear hs hAB H2
    go_wp2_with fail
    go_ret
    exact ⟨by rw [HP.out]; rfl, H3.out⟩

end Go.Proofs.YtfhggnbnbopkkaaDoor
