/- The document's atom; its readers of trees joined. -/
import Derived.Test.YtpiflikblpfgoaaDoorPatRefRow
import Derived.Test.YtpiflikblpfgoaaDoorPatRefClass
namespace Go.Proofs.YtpiflikblpfgoaaDoor
open Go.RowKit PM
attribute [local go_sem] nodeC

theorem u8_beq {c : UInt8} {k : Nat} (h : c.toNat = k) (n : Nat) : ((c.toNat : Int) == (n : Int)) = Nat.beq k n := by
  rw [beq_lit n h]

/-- what stands behind a node's store into the result's block -/
theorem res_put {w wr : World} {t : T} {K : Value} (hr : wr.heap[w.heap.size]? = some (.cells zN TN (0, 0))) (hb : Below w.heap.size w wr) (hK : IsT wr (fun b => w.heap.size + 1 ≤ b) K t) :
    IsT (wr.setRow w.heap.size (nodeC t K).toArray) (fun b => w.heap.size ≤ b) K t ∧ Below w.heap.size w (wr.setRow w.heap.size (nodeC t K).toArray) :=
  ⟨(hK.grown (grown_row wr w.heap.size _) (fun b hb e => by cases e; omega)).imp fun b hb _ => by omega, hb.trans (below_rowB _ _ _ _ (Nat.le_refl _))⟩

set_option maxRecDepth 100000 in
set_option maxHeartbeats 16000000 in
theorem ratom_step (F : Nat) (ih : ∀ f, f < F → RAltsC f) : RAtomC F := by
  intro s a w ha hs hF
  obtain ⟨f, rfl⟩ : ∃ f, F = f + 1 := ⟨F - 1, by omega⟩
  obtain ⟨r, hr⟩ : ∃ r, atom (f + 1) s.data.toList a = r := ⟨_, rfl⟩
  rw [hr]
  simp only [atom, List.getElem?_eq_getElem (show a < s.data.toList.length from ha)] at hr
  have hsa : s.data.toList[a] = s[a] := rfl
  rw [hsa] at hr
  have HR := Lib.hid hr; have IH := Lib.hid ih; have H0 := Lib.hid (gs_start w)
  have hal : (a : Int) < s.size := by omega
  have hai : (a : Int) ≤ 100000 := by omega
  have ha0 : (0 : Int) ≤ a := by omega
  clear hr ih hsa
  have hcase : s[a].toNat = 40 ∨ s[a].toNat = 91 ∨ s[a].toNat = 46 ∨ s[a].toNat = 42 ∨ s[a].toNat = 43 ∨ s[a].toNat = 63 ∨ s[a].toNat = 93 ∨ s[a].toNat = 92 ∨
      (s[a].toNat ≠ 40 ∧ s[a].toNat ≠ 91 ∧ s[a].toNat ≠ 46 ∧ s[a].toNat ≠ 42 ∧ s[a].toNat ≠ 43 ∧ s[a].toNat ≠ 63 ∧ s[a].toNat ≠ 93 ∧ s[a].toNat ≠ 92) := by omega
  rcases hcase with hc | hc | hc | hc | hc | hc | hc | hc | hc
  · have hr := HR.out
    rw [if_pos hc] at hr
    have HR1 := Lib.hid hr
    clear hr HR
    have x0 : ((s[a].toNat : Int) == 40) = true := by rw [hc]; rfl
    clear hc
    go_enter Tryd.func51, Tryd.ntmps51
    go_wp2_with fail
    change Calls _ _ _ (w.alloc (.cells zN TN)) _
    have hsz : (w.alloc (.cells zN TN)).heap.size = w.heap.size + 1 := by simp
    have HSZ := Lib.hid hsz
    clear hsz
    generalize w.alloc (.cells zN TN) = W0 at *
    refine (IH.out f (by omega) s (a + 1) W0 (by omega) hs (by omega)).mono ?_
    rintro e w1 hm
    have hr := HR1.out
    rcases halt : alts f s.data.toList (a + 1) [] with ⟨y, m⟩ | ⟨k'⟩
    · rw [halt] at hm hr
      obtain ⟨K, rfl, hK, hb⟩ := hm
      obtain ⟨A, c, rfl⟩ := hK.slice
      obtain ⟨ham, hms, -⟩ := (read_pos s.data.toList f).1 _ _ _ _ halt (show a + 1 ≤ s.data.toList.length from ha)
      have hend := alts_end _ _ _ halt (show a + 1 ≤ s.data.toList.length from ha)
      have hml : m ≤ s.size := hms
      rw [HSZ.out] at hK
      have HG1 := Lib.hid (H0.out.on hb)
      have HR2 := Lib.hid (show (if s.data.toList[m]? = some 41 then R.ok y (m + 1) else .bad m) = r from hr)
      have HK := Lib.hid hK
      have hmi : (m : Int) ≤ 100000 := by omega
      have hmi0 : (0 : Int) ≤ m := by omega
      clear hb hK hr halt hms H0 HR1 x0
      simp only [nodeV]
      go_upto_region 4 with (fail)
      have hN := NodAt.made w1 y (.slice A y.kids.length c)
      have hAB := below_new w1 (.cells #[.int .i64 y.op, .int .u64 (word y.set 0), .int .u64 (word y.set 1), .int .u64 (word y.set 2), .int .u64 (word y.set 3), .slice A y.kids.length c] TN)
      have HG2 := Lib.hid (HG1.out.on hAB)
      have HK2 := Lib.hid (HK.out.on hAB)
      obtain ⟨k0, k1, k2, k3, k4, k5⟩ := hN.cells
      clear hN hAB HG1 HK
      generalize w1.alloc (.cells #[.int .i64 y.op, .int .u64 (word y.set 0), .int .u64 (word y.set 1), .int .u64 (word y.set 2), .int .u64 (word y.set 3), .slice A y.kids.length c] TN) = w2 at *
      generalize w1.heap.size = B7 at *
      rcases hend with h1 | h1
      · have hge := byte_none s m h1
        have h2 : ((m : Int) == (s.size : Int)) = true := by rw [beq_iff_eq]; omega
        have hr := HR2.out
        rw [if_neg (by rw [h1]; simp)] at hr
        subst hr
        clear hge h1 HR2 k0 k1 k2 k3 k4 k5
        go_wp2_with (refine wpList_store_row rfl TN (.tmp 4) (.tmp 31) rfl w.heap.size zN rfl rfl TN zN HG2.out.res (by kernel_rfl) rfl (by simp [zN, Value.oneCell']) ?_)
        exact bodyPost_ret (v := .tuple #[.agg zN, .int .i64 m, .bool false]) (results_rtt rfl _ _ w.heap.size _ _ _ rfl rfl rfl (load_node _ _ zN (setRow_heap _ _ _ _ _ _ HG2.out.res) rfl)) rfl (refIs_bad rfl (HG2.out.bad _))
      · obtain ⟨hl, _⟩ := byte_at s m 41 h1
        have h2 : ((m : Int) == (s.size : Int)) = false := by rw [beq_eq_false_iff_ne]; omega
        have hr := HR2.out
        rw [if_pos h1] at hr
        subst hr
        have HD := Lib.hid (HG2.out.put HK2.out (nodeC y (.slice A y.kids.length c)).toArray)
        have HA := Lib.hid (node_all HK2.out)
        clear h1 HR2
        go_wp2_with (refine wpList_store_row rfl TN (.tmp 4) (.tmp 33) rfl w.heap.size (nodeC y (.slice A y.kids.length c)).toArray rfl rfl TN zN HG2.out.res (by kernel_rfl) rfl HA.out ?_)
        exact bodyPost_ret (v := .tuple #[.agg (nodeC y (.slice A y.kids.length c)).toArray, .int .i64 (m + 1), .bool true]) (results_rtt rfl _ _ w.heap.size _ _ _ rfl rfl rfl (load_node _ _ _ (setRow_heap _ _ _ _ _ _ HG2.out.res) rfl)) rfl (refIs_ok (n := m + 1) rfl HD.out.1 HD.out.2)
    · rw [halt] at hm hr
      obtain ⟨rfl, hb⟩ := hm
      subst hr
      have HG1 := Lib.hid ((H0.out.on hb).on (below_new w1 (.cells zN TN)))
      have hN := heap_alloc_new w1 (.cells zN TN)
      have HN := Lib.hid hN
      clear hb H0 HR1 halt x0 hN
      simp only [zN] at HG1 HN ⊢
      go_wp2_with (refine wpList_store_row rfl TN (.tmp 4) (.tmp 25) rfl w.heap.size zN rfl rfl TN zN HG1.out.res (by kernel_rfl) rfl (by simp [zN, Value.oneCell']) ?_)
      exact bodyPost_ret (v := .tuple #[.agg zN, .int .i64 k', .bool false]) (results_rtt rfl _ _ w.heap.size _ _ _ rfl rfl rfl (load_node _ _ zN (setRow_heap _ _ _ _ _ _ HG1.out.res) rfl)) rfl (refIs_bad rfl (HG1.out.bad _))
  · have hr := HR.out
    rw [if_neg (by omega), if_pos hc] at hr
    have HR1 := Lib.hid hr
    clear hr HR
    have x0 : ((s[a].toNat : Int) == 40) = false := by rw [hc]; rfl
    have x1 : ((s[a].toNat : Int) == 91) = true := by rw [hc]; rfl
    clear hc
    go_enter Tryd.func51, Tryd.ntmps51
    go_wp2_with fail
    change Calls _ _ _ (w.alloc (.cells zN TN)) _
    have hsz : (w.alloc (.cells zN TN)).heap.size = w.heap.size + 1 := by simp
    have HSZ := Lib.hid hsz
    clear hsz
    generalize w.alloc (.cells zN TN) = W0 at *
    refine (rclass_any s (a + 1) W0 (by omega) hs).mono ?_
    rintro e w1 hm
    rw [HR1.out] at hm
    rcases r with ⟨y, m⟩ | ⟨k'⟩
    · obtain ⟨K, rfl, hK, hb⟩ := hm
      obtain ⟨A, c, rfl⟩ := hK.slice
      rw [HSZ.out] at hK
      have HG2 := Lib.hid (H0.out.on hb)
      have HK2 := Lib.hid hK
      have HD := Lib.hid (HG2.out.put HK2.out (nodeC y (.slice A y.kids.length c)).toArray)
      have HA := Lib.hid (node_all HK2.out)
      clear hb hK H0 HR1 x0 x1
      simp only [nodeV]
      go_wp2_with (refine wpList_store_row rfl TN (.tmp 4) (.tmp 42) rfl w.heap.size (nodeC y (.slice A y.kids.length c)).toArray rfl rfl TN zN HG2.out.res (by kernel_rfl) rfl HA.out ?_)
      exact bodyPost_ret (v := .tuple #[.agg (nodeC y (.slice A y.kids.length c)).toArray, .int .i64 m, .bool true]) (results_rtt rfl _ _ w.heap.size _ _ _ rfl rfl rfl (load_node _ _ _ (setRow_heap _ _ _ _ _ _ HG2.out.res) rfl)) rfl (refIs_ok rfl HD.out.1 HD.out.2)
    · obtain ⟨rfl, hb⟩ := hm
      have HG1 := Lib.hid (H0.out.on hb)
      clear hb H0 HR1 x0 x1
      simp only [zN] at HG1 ⊢
      go_wp2_with (refine wpList_store_row rfl TN (.tmp 4) (.tmp 42) rfl w.heap.size zN rfl rfl TN zN HG1.out.res (by kernel_rfl) rfl (by simp [zN, Value.oneCell']) ?_)
      exact bodyPost_ret (v := .tuple #[.agg zN, .int .i64 k', .bool false]) (results_rtt rfl _ _ w.heap.size _ _ _ rfl rfl rfl (load_node _ _ zN (setRow_heap _ _ _ _ _ _ HG1.out.res) rfl)) rfl (refIs_bad rfl (HG1.out.bad _))
  · have hr := HR.out
    rw [if_neg (by omega), if_neg (by omega), if_pos hc] at hr
    subst hr
    clear HR IH
    have x0 : ((s[a].toNat : Int) == 40) = false := by rw [hc]; rfl
    have x1 : ((s[a].toNat : Int) == 91) = false := by rw [hc]; rfl
    have x2 : ((s[a].toNat : Int) == 46) = true := by rw [hc]; rfl
    clear hc
    go_enter Tryd.func51, Tryd.ntmps51
    go_wp2_with fail
    change Calls _ _ _ (w.alloc (.cells zN TN)) _
    generalize w.alloc (.cells zN TN) = W0 at *
    refine (rall_any W0).mono ?_
    rintro e w1 ⟨rfl, hb⟩
    have HG2 := Lib.hid (H0.out.on hb)
    have HD := Lib.hid (HG2.out.put (IsT.nil 2 (every).set) (nodeC (every) (.slice none 0 0)).toArray)
    have HA := Lib.hid (node_all (IsT.nil (w := w1) (p := fun _ => True) 2 (every).set))
    clear hb H0 x0 x1 x2
    simp only [nodeV]
    go_wp2_with (refine wpList_store_row rfl TN (.tmp 4) (.tmp 47) rfl w.heap.size (nodeC (every) (.slice none 0 0)).toArray rfl rfl TN zN HG2.out.res (by kernel_rfl) rfl HA.out ?_)
    exact bodyPost_ret (v := .tuple #[.agg (nodeC (every) (.slice none 0 0)).toArray, .int .i64 (a + 1), .bool true]) (results_rtt rfl _ _ w.heap.size _ _ _ rfl rfl rfl (load_node _ _ _ (setRow_heap _ _ _ _ _ _ HG2.out.res) rfl)) rfl (refIs_ok (t := every) (n := a + 1) rfl HD.out.1 HD.out.2)
  · have hr := HR.out
    rw [if_neg (by omega), if_neg (by omega), if_neg (by omega), if_neg (by omega), if_pos (by omega)] at hr
    subst hr
    clear HR IH
    have x0 : ((s[a].toNat : Int) == 40) = false := by rw [hc]; rfl
    have x1 : ((s[a].toNat : Int) == 91) = false := by rw [hc]; rfl
    have x2 : ((s[a].toNat : Int) == 46) = false := by rw [hc]; rfl
    have x3 : ((s[a].toNat : Int) == 42) = true := by rw [hc]; rfl
    clear hc
    go_enter Tryd.func51, Tryd.ntmps51
    simp only [zN] at H0
    go_wp2_with (refine wpList_store_row rfl TN (.tmp 4) (.tmp 55) rfl w.heap.size zN rfl rfl TN zN H0.out.res (by kernel_rfl) rfl (by simp [zN, Value.oneCell']) ?_)
    exact bodyPost_ret (v := .tuple #[.agg zN, .int .i64 a, .bool false]) (results_rtt rfl _ _ w.heap.size _ _ _ rfl rfl rfl (load_node _ _ zN (setRow_heap _ _ _ _ _ _ H0.out.res) rfl)) rfl (refIs_bad rfl (H0.out.bad _))
  · have hr := HR.out
    rw [if_neg (by omega), if_neg (by omega), if_neg (by omega), if_neg (by omega), if_pos (by omega)] at hr
    subst hr
    clear HR IH
    have x0 : ((s[a].toNat : Int) == 40) = false := by rw [hc]; rfl
    have x1 : ((s[a].toNat : Int) == 91) = false := by rw [hc]; rfl
    have x2 : ((s[a].toNat : Int) == 46) = false := by rw [hc]; rfl
    have x3 : ((s[a].toNat : Int) == 42) = false := by rw [hc]; rfl
    have x4 : ((s[a].toNat : Int) == 43) = true := by rw [hc]; rfl
    clear hc
    go_enter Tryd.func51, Tryd.ntmps51
    simp only [zN] at H0
    go_wp2_with (refine wpList_store_row rfl TN (.tmp 4) (.tmp 55) rfl w.heap.size zN rfl rfl TN zN H0.out.res (by kernel_rfl) rfl (by simp [zN, Value.oneCell']) ?_)
    exact bodyPost_ret (v := .tuple #[.agg zN, .int .i64 a, .bool false]) (results_rtt rfl _ _ w.heap.size _ _ _ rfl rfl rfl (load_node _ _ zN (setRow_heap _ _ _ _ _ _ H0.out.res) rfl)) rfl (refIs_bad rfl (H0.out.bad _))
  · have hr := HR.out
    rw [if_neg (by omega), if_neg (by omega), if_neg (by omega), if_neg (by omega), if_pos (by omega)] at hr
    subst hr
    clear HR IH
    have x0 : ((s[a].toNat : Int) == 40) = false := by rw [hc]; rfl
    have x1 : ((s[a].toNat : Int) == 91) = false := by rw [hc]; rfl
    have x2 : ((s[a].toNat : Int) == 46) = false := by rw [hc]; rfl
    have x3 : ((s[a].toNat : Int) == 42) = false := by rw [hc]; rfl
    have x4 : ((s[a].toNat : Int) == 43) = false := by rw [hc]; rfl
    have x5 : ((s[a].toNat : Int) == 63) = true := by rw [hc]; rfl
    clear hc
    go_enter Tryd.func51, Tryd.ntmps51
    simp only [zN] at H0
    go_wp2_with (refine wpList_store_row rfl TN (.tmp 4) (.tmp 55) rfl w.heap.size zN rfl rfl TN zN H0.out.res (by kernel_rfl) rfl (by simp [zN, Value.oneCell']) ?_)
    exact bodyPost_ret (v := .tuple #[.agg zN, .int .i64 a, .bool false]) (results_rtt rfl _ _ w.heap.size _ _ _ rfl rfl rfl (load_node _ _ zN (setRow_heap _ _ _ _ _ _ H0.out.res) rfl)) rfl (refIs_bad rfl (H0.out.bad _))
  · have hr := HR.out
    rw [if_neg (by omega), if_neg (by omega), if_neg (by omega), if_neg (by omega), if_pos (by omega)] at hr
    subst hr
    clear HR IH
    have x0 : ((s[a].toNat : Int) == 40) = false := by rw [hc]; rfl
    have x1 : ((s[a].toNat : Int) == 91) = false := by rw [hc]; rfl
    have x2 : ((s[a].toNat : Int) == 46) = false := by rw [hc]; rfl
    have x3 : ((s[a].toNat : Int) == 42) = false := by rw [hc]; rfl
    have x4 : ((s[a].toNat : Int) == 43) = false := by rw [hc]; rfl
    have x5 : ((s[a].toNat : Int) == 63) = false := by rw [hc]; rfl
    have x6 : ((s[a].toNat : Int) == 93) = true := by rw [hc]; rfl
    clear hc
    go_enter Tryd.func51, Tryd.ntmps51
    simp only [zN] at H0
    go_wp2_with (refine wpList_store_row rfl TN (.tmp 4) (.tmp 55) rfl w.heap.size zN rfl rfl TN zN H0.out.res (by kernel_rfl) rfl (by simp [zN, Value.oneCell']) ?_)
    exact bodyPost_ret (v := .tuple #[.agg zN, .int .i64 a, .bool false]) (results_rtt rfl _ _ w.heap.size _ _ _ rfl rfl rfl (load_node _ _ zN (setRow_heap _ _ _ _ _ _ H0.out.res) rfl)) rfl (refIs_bad rfl (H0.out.bad _))
  · have hr := HR.out
    rw [if_neg (by omega), if_neg (by omega), if_neg (by omega), if_pos hc] at hr
    have HR1 := Lib.hid hr
    clear hr HR IH
    have x0 : ((s[a].toNat : Int) == 40) = false := by rw [hc]; rfl
    have x1 : ((s[a].toNat : Int) == 91) = false := by rw [hc]; rfl
    have x2 : ((s[a].toNat : Int) == 46) = false := by rw [hc]; rfl
    have x3 : ((s[a].toNat : Int) == 42) = false := by rw [hc]; rfl
    have x4 : ((s[a].toNat : Int) == 43) = false := by rw [hc]; rfl
    have x5 : ((s[a].toNat : Int) == 63) = false := by rw [hc]; rfl
    have x6 : ((s[a].toNat : Int) == 93) = false := by rw [hc]; rfl
    have x7 : ((s[a].toNat : Int) == 92) = true := by rw [hc]; rfl
    clear hc
    rcases hd : s.data.toList[a + 1]? with _ | d
    · have hr := HR1.out
      rw [hd] at hr
      subst hr
      have hge := byte_none s (a + 1) hd
      have h2 : ((a : Int) + 1 == (s.size : Int)) = true := by rw [beq_iff_eq]; omega
      clear hge hd HR1
      go_enter Tryd.func51, Tryd.ntmps51
      simp only [zN] at H0
      go_wp2_with (refine wpList_store_row rfl TN (.tmp 4) (.tmp 64) rfl w.heap.size zN rfl rfl TN zN H0.out.res (by kernel_rfl) rfl (by simp [zN, Value.oneCell']) ?_)
      exact bodyPost_ret (v := .tuple #[.agg zN, .int .i64 (a + 1), .bool false]) (results_rtt rfl _ _ w.heap.size _ _ _ rfl rfl rfl (load_node _ _ zN (setRow_heap _ _ _ _ _ _ H0.out.res) rfl)) rfl (refIs_bad (k := a + 1) rfl (H0.out.bad _))
    have hr := HR1.out
    rw [hd] at hr
    subst hr
    obtain ⟨hl2, rfl⟩ := byte_at s (a + 1) d hd
    have h2 : ((a : Int) + 1 == (s.size : Int)) = false := by rw [beq_eq_false_iff_ne]; omega
    have hl3 : (a : Int) + 1 < s.size := by omega
    clear hd HR1
    go_enter Tryd.func51, Tryd.ntmps51
    go_wp2_with fail
    change Calls _ _ _ (w.alloc (.cells zN TN)) _
    generalize w.alloc (.cells zN TN) = W0 at *
    refine (rone_any s[a + 1].toNat s[a + 1].toNat_lt W0).mono ?_
    rintro e w1 ⟨rfl, hb⟩
    have HG2 := Lib.hid (H0.out.on hb)
    have HD := Lib.hid (HG2.out.put (IsT.nil 2 (one s[a + 1].toNat).set) (nodeC (one s[a + 1].toNat) (.slice none 0 0)).toArray)
    have HA := Lib.hid (node_all (IsT.nil (w := w1) (p := fun _ => True) 2 (one s[a + 1].toNat).set))
    clear hb H0 x0 x1 x2 x3 x4 x5 x6 x7
    simp only [nodeV]
    go_wp2_with (refine wpList_store_row rfl TN (.tmp 4) (.tmp 71) rfl w.heap.size (nodeC (one s[a + 1].toNat) (.slice none 0 0)).toArray rfl rfl TN zN HG2.out.res (by kernel_rfl) rfl HA.out ?_)
    exact bodyPost_ret (v := .tuple #[.agg (nodeC (one s[a + 1].toNat) (.slice none 0 0)).toArray, .int .i64 (a + 2), .bool true]) (results_rtt rfl _ _ w.heap.size _ _ _ rfl rfl rfl (load_node _ _ _ (setRow_heap _ _ _ _ _ _ HG2.out.res) rfl)) rfl (refIs_ok (t := one s[a + 1].toNat) (n := a + 2) rfl HD.out.1 HD.out.2)
  · have hr := HR.out
    rw [if_neg (by omega), if_neg (by omega), if_neg (by omega), if_neg (by omega), if_neg (by omega)] at hr
    subst hr
    clear HR IH
    have x0 : ((s[a].toNat : Int) == 40) = false := by rw [beq_eq_false_iff_ne]; omega
    have x1 : ((s[a].toNat : Int) == 91) = false := by rw [beq_eq_false_iff_ne]; omega
    have x2 : ((s[a].toNat : Int) == 46) = false := by rw [beq_eq_false_iff_ne]; omega
    have x3 : ((s[a].toNat : Int) == 42) = false := by rw [beq_eq_false_iff_ne]; omega
    have x4 : ((s[a].toNat : Int) == 43) = false := by rw [beq_eq_false_iff_ne]; omega
    have x5 : ((s[a].toNat : Int) == 63) = false := by rw [beq_eq_false_iff_ne]; omega
    have x6 : ((s[a].toNat : Int) == 93) = false := by rw [beq_eq_false_iff_ne]; omega
    have x7 : ((s[a].toNat : Int) == 92) = false := by rw [beq_eq_false_iff_ne]; omega
    clear hc
    go_enter Tryd.func51, Tryd.ntmps51
    go_wp2_with fail
    change Calls _ _ _ (w.alloc (.cells zN TN)) _
    generalize w.alloc (.cells zN TN) = W0 at *
    refine (rone_any s[a].toNat s[a].toNat_lt W0).mono ?_
    rintro e w1 ⟨rfl, hb⟩
    have HG2 := Lib.hid (H0.out.on hb)
    have HD := Lib.hid (HG2.out.put (IsT.nil 2 (one s[a].toNat).set) (nodeC (one s[a].toNat) (.slice none 0 0)).toArray)
    have HA := Lib.hid (node_all (IsT.nil (w := w1) (p := fun _ => True) 2 (one s[a].toNat).set))
    clear hb H0 x0 x1 x2 x3 x4 x5 x6 x7
    simp only [nodeV]
    go_wp2_with (refine wpList_store_row rfl TN (.tmp 4) (.tmp 77) rfl w.heap.size (nodeC (one s[a].toNat) (.slice none 0 0)).toArray rfl rfl TN zN HG2.out.res (by kernel_rfl) rfl HA.out ?_)
    exact bodyPost_ret (v := .tuple #[.agg (nodeC (one s[a].toNat) (.slice none 0 0)).toArray, .int .i64 (a + 1), .bool true]) (results_rtt rfl _ _ w.heap.size _ _ _ rfl rfl rfl (load_node _ _ _ (setRow_heap _ _ _ _ _ _ HG2.out.res) rfl)) rfl (refIs_ok (t := one s[a].toNat) (n := a + 1) rfl HD.out.1 HD.out.2)

/-- all of them -/
theorem rread_all : ∀ F : Nat, RAltsC F ∧ RRowC F ∧ RAtomC F := by
  intro F
  induction F using Nat.strongRecOn with
  | ind F ih =>
    exact ⟨ralts_step F fun f hf => (ih f hf).2.1, rrow_step F fun f hf => (ih f hf).2.2, ratom_step F fun f hf => (ih f hf).1⟩
theorem ralts_any (s : ByteArray) (w : World) (hs : s.size ≤ 100000) :
    Calls Tryd.prog 29 #[.string s, .int .i64 0] w (RefIs w (alts (3 * s.size + 3) s.data.toList 0 [])) :=
  (rread_all _).1 s 0 w (by omega) hs (by omega)
end Go.Proofs.YtpiflikblpfgoaaDoor
