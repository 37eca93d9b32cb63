/- Regular texts: an atom: the walk; all three together. -/
import Derived.Test.YtfhggnbnbopkkaaDoorPatRow
namespace Go.Proofs.YtfhggnbnbopkkaaDoor
open Go.RowKit PM
attribute [local go_sem] nodeC

theorem nb {c : UInt8} {n : Nat} (h : ¬ c.toNat = n) : ((c.toNat : Int) == (n : Int)) = false := by rw [beq_eq_false_iff_ne]; omega
theorem yb {c : UInt8} {n : Nat} (h : c.toNat = n) : ((c.toNat : Int) == (n : Int)) = true := by rw [beq_iff_eq]; omega

set_option maxRecDepth 100000 in
set_option maxHeartbeats 8000000 in
theorem atom_step (F : Nat) (ih : ∀ f, f < F → AltsC f) : AtomC F := by
  intro g s a w h ha hs hF
  obtain ⟨f, rfl⟩ : ∃ f, F = f + 1 := ⟨F - 1, by omega⟩
  have hg := h.lt
  have hb0 := below_new w (.cells zN TN)
  have hPS : PS w g s (w.alloc (.cells zN TN)) a (.slice none 0 0) [] := ⟨h.on hb0, Kids.nil _ _, heap_alloc_new w _, grown_below hb0 _⟩
  obtain ⟨c, hc⟩ : ∃ c, s.data.toList[a]? = some c := ⟨_, List.getElem?_eq_getElem (show a < s.data.toList.length from ha)⟩
  obtain ⟨r, hr⟩ : ∃ r, atom (f + 1) s.data.toList a = r := ⟨_, rfl⟩
  rw [hr]
  simp only [atom, hc] at hr
  have HPS := Lib.hid hPS; have HG := Lib.hid hg; have IH := Lib.hid ih; have HC := Lib.hid hc
  have hai : (a : Int) ≤ 100000 := by omega
  clear h hb0 hg ih hPS hc
  have HR := Lib.hid hr
  clear hr
  by_cases e40 : c.toNat = 40
  · have j40 : ((c.toNat : Int) == 40) = true := yb e40
    have hr := HR.out
    rw [if_pos e40] at hr
    have HR1 := Lib.hid hr
    clear hr HR e40
    go_enter Tryd.func70, Tryd.ntmps70
    go_wp2_with fail
    change Calls _ _ _ (w.alloc (.cells zN TN)) _
    generalize w.alloc (.cells zN TN) = W0 at *
    refine (take_some g s a c W0 HPS.out.rg HC.out (by omega)).mono ?_
    rintro e w1 ⟨rfl, hrg, hup⟩
    have HP1 := Lib.hid (HPS.out.go HG.out hrg hup)
    clear hrg hup HPS
    go_wp2_with fail
    refine (IH.out f (by omega) g s (a + 1) w1 HP1.out.rg ha hs (by omega)).mono ?_
    rintro e w3 hm
    have hr := HR1.out
    rcases hat : alts f s.data.toList (a + 1) [] with ⟨x, m⟩ | ⟨k'⟩
    case bad =>
      rw [hat] at hm hr
      obtain ⟨rfl, hup⟩ := hm
      subst hr
      have HUP := Lib.hid (grown_trans HP1.out.up hup)
      clear hup HR1 HP1 hat
      go_wp2_with fail
      exact ⟨rfl, readIs_bad rfl HUP.out⟩
    case ok =>
    rw [hat] at hm hr
    obtain ⟨K, rfl, hK, hrg, hup⟩ := hm
    obtain ⟨hnm, hms, -⟩ := (read_pos s.data.toList f).1 _ _ _ _ hat (show a + 1 ≤ s.data.toList.length from ha)
    have hml : m ≤ s.size := hms
    have hXS := XS.mk' (HP1.out.go HG.out hrg hup) (HP1.out.kids.far (lt_of_block HP1.out.res) hK)
    have HR4 := Lib.hid hr
    obtain ⟨Ak, ck, hKs⟩ := hK.slice
    subst hKs
    have HXS := Lib.hid hXS
    clear hr HR1 HP1 hat hK hrg hup hms hXS j40
    simp only [nodeV]
    go_wp2_with fail
    change Calls _ _ _ (w3.alloc (.cells (nodeC x (.slice Ak x.kids.length ck)).toArray TN)) _
    obtain ⟨b, hb⟩ : ∃ b, w3.heap.size = b := ⟨_, rfl⟩
    rw [hb] at HXS ⊢
    generalize w3.alloc (.cells (nodeC x (.slice Ak x.kids.length ck)).toArray TN) = W5 at *
    clear hb
    generalize Value.slice Ak x.kids.length ck = K at *
    refine (next_any g s m W5 HXS.out.rg (by omega)).mono ?_
    rintro e w6 ⟨rfl, hb⟩
    have HX6 := Lib.hid (HXS.out.on hb)
    clear hb HXS
    have hmi : (m : Int) ≤ 100000 := by omega
    have hr := HR4.out
    rcases byte_three s.data.toList m 41 41 rfl with ⟨hn, hn2⟩ | ⟨c2, hn, hj, hn2⟩ | ⟨c2, hn, hj, hn2⟩
    case inr.inl =>
      try simp only [] at hr
      rw [if_pos hn2] at hr
      subst hr
      have c1 := HX6.out.rg.c1; have f1 := HX6.out.rg.f1
      have hj2 : ((c2.toNat : Int) != 41) = false := by rw [bne, hj]; rfl
      have hX7 := HX6.out.step HG.out (m + 1)
      have HX7 := Lib.hid hX7
      have HD := Lib.hid (hX7.ps.done HG.out (Below.refl _ _) (hX7.is.imp (q := fun k => w.heap.size ≤ k) fun k hk _ => by omega) (hX7.is.imp (q := fun k => w.heap.size + 1 ≤ k) fun k hk _ => hk.1.1))
      have HA := Lib.hid (node_all hX7.is)
      simp only [nextV, hn]
      clear hn hn2 HX6 hX7 HR4
      go_upto_region 10 with (fail)
      clear c1 f1 hj hj2
      change Code.wp _ _ _ _ (w6.setCell ⟨g, 1, none⟩ (.int .i64 ↑(m + 1)))
      generalize w6.setCell ⟨g, 1, none⟩ (.int .i64 ↑(m + 1)) = W8 at *
      go_wp2_with (first | (refine wpList_load_row rfl TN (.tmp 4) rfl b rfl TN _ (0, 0) _ HX7.out.nb Tryd.underlying66 rfl (by kernel_rfl) ?_) | (refine wpList_store_row rfl TN (.tmp 2) (.tmp 39) rfl w.heap.size (nodeC x K).toArray rfl rfl TN zN HX7.out.res (by kernel_rfl) rfl HA.out ?_))
      exact bodyPost_ret (results_cell_row rfl _ _ w.heap.size TN (nodeC x K).toArray (0, 0) _ rfl (setRow_heap _ _ _ _ _ _ HX7.out.res) Tryd.underlying66 rfl (by kernel_rfl)) rfl HD.out
    all_goals
      try simp only [] at hr
      rw [if_neg hn2] at hr
      subst hr
      have c1 := HX6.out.rg.c1
      have hj2 : True := trivial
      try have hj2 : ((c2.toNat : Int) != 41) = true := by rw [bne, hj]; rfl
      have HUP := Lib.hid HX6.out.up
      simp only [nextV, hn]
      clear hn hn2 HX6 HR4
      go_wp2_with fail
      exact ⟨rfl, readIs_bad rfl HUP.out⟩
  · have hr := HR.out
    rw [if_neg e40] at hr
    have HR1 := Lib.hid hr
    have j40 : ((c.toNat : Int) == 40) = false := nb e40
    clear hr HR e40
    by_cases e91 : c.toNat = 91
    · have j91 : ((c.toNat : Int) == 91) = true := yb e91
      have hr := HR1.out
      rw [if_pos e91] at hr
      have HR2 := Lib.hid hr
      clear hr HR1 e91
      go_enter Tryd.func70, Tryd.ntmps70
      go_wp2_with fail
      change Calls _ _ _ (w.alloc (.cells zN TN)) _
      generalize w.alloc (.cells zN TN) = W0 at *
      refine (take_some g s a c W0 HPS.out.rg HC.out (by omega)).mono ?_
      rintro e w1 ⟨rfl, hrg, hup⟩
      have HP1 := Lib.hid (HPS.out.go HG.out hrg hup)
      clear hrg hup HPS
      go_wp2_with fail
      refine (class_any g s (a + 1) w1 HP1.out.rg (by omega) ha).mono ?_
      rintro e w3 hm
      have hr := HR2.out
      rcases hcl : cls s.data.toList (a + 1) with ⟨x, m⟩ | ⟨k'⟩
      case bad =>
        rw [hcl] at hm hr
        obtain ⟨rfl, hup⟩ := hm
        subst hr
        have HUP := Lib.hid (grown_trans HP1.out.up hup)
        clear hup HR2 HP1 hcl
        go_wp2_with fail
        exact ⟨rfl, readIs_bad rfl HUP.out⟩
      case ok =>
      rw [hcl] at hm hr
      obtain ⟨K, rfl, hK, hrg, hup⟩ := hm
      have hKB : IsT w3 (fun k => w.heap.size + 1 ≤ k) K x := hK.imp fun k hk _ => by have : w.heap.size < w1.heap.size := lt_of_block HP1.out.res; omega
      have HP3 := Lib.hid (HP1.out.go HG.out hrg hup)
      have HIS := Lib.hid hKB
      subst hr
      clear HR2 HP1 hcl hK hrg hup hKB j40 j91
      have HD := Lib.hid (HP3.out.done HG.out (Below.refl _ _) (HIS.out.imp (q := fun k => w.heap.size ≤ k) fun k hk _ => by omega) HIS.out)
      have HA := Lib.hid (node_all HIS.out)
      go_wp2_with (refine wpList_store_row rfl TN (.tmp 2) (.tmp 43) rfl w.heap.size (nodeC (x) (K)).toArray rfl rfl TN zN HP3.out.res (by kernel_rfl) rfl HA.out ?_)
      exact bodyPost_ret (results_cell_row rfl _ _ w.heap.size TN (nodeC (x) (K)).toArray (0, 0) _ rfl (setRow_heap _ _ _ _ _ _ HP3.out.res) Tryd.underlying66 rfl (by kernel_rfl)) rfl HD.out
    have j91 : ((c.toNat : Int) == 91) = false := nb e91
    have hr := HR1.out
    rw [if_neg e91] at hr
    have HR2 := Lib.hid hr
    clear hr HR1 e91
    by_cases e46 : c.toNat = 46
    · have j46 : ((c.toNat : Int) == 46) = true := yb e46
      have hr := HR2.out
      rw [if_pos e46] at hr
      have HR3 := Lib.hid hr
      clear hr HR2 e46
      go_enter Tryd.func70, Tryd.ntmps70
      go_wp2_with fail
      change Calls _ _ _ (w.alloc (.cells zN TN)) _
      generalize w.alloc (.cells zN TN) = W0 at *
      refine (take_some g s a c W0 HPS.out.rg HC.out (by omega)).mono ?_
      rintro e w1 ⟨rfl, hrg, hup⟩
      have HP1 := Lib.hid (HPS.out.go HG.out hrg hup)
      clear hrg hup HPS
      go_wp2_with fail
      refine (every_any w1).mono ?_
      rintro e w3 ⟨rfl, hb⟩
      have HP3 := Lib.hid (HP1.out.on hb)
      have hr := HR3.out
      subst hr
      clear HR3 HP1 hb j40 j91 j46
      have hK : IsT w3 (fun k => w.heap.size + 1 ≤ k) (.slice none 0 0) every := IsT.nil _ _
      have HIS := Lib.hid hK
      clear hK
      have HD := Lib.hid (HP3.out.done HG.out (Below.refl _ _) (HIS.out.imp (q := fun k => w.heap.size ≤ k) fun k hk _ => by omega) HIS.out)
      have HA := Lib.hid (node_all HIS.out)
      go_wp2_with (refine wpList_store_row rfl TN (.tmp 2) (.tmp 46) rfl w.heap.size (nodeC (every) (.slice none 0 0)).toArray rfl rfl TN zN HP3.out.res (by kernel_rfl) rfl HA.out ?_)
      exact bodyPost_ret (results_cell_row rfl _ _ w.heap.size TN (nodeC (every) (.slice none 0 0)).toArray (0, 0) _ rfl (setRow_heap _ _ _ _ _ _ HP3.out.res) Tryd.underlying66 rfl (by kernel_rfl)) rfl HD.out
    have j46 : ((c.toNat : Int) == 46) = false := nb e46
    have hr := HR2.out
    rw [if_neg e46] at hr
    have HR3 := Lib.hid hr
    clear hr HR2 e46
    by_cases e92 : c.toNat = 92
    · have j92 : ((c.toNat : Int) == 92) = true := yb e92
      have hr := HR3.out
      rw [if_pos e92] at hr
      have HR4 := Lib.hid hr
      clear hr HR3 e92
      go_enter Tryd.func70, Tryd.ntmps70
      go_wp2_with fail
      change Calls _ _ _ (w.alloc (.cells zN TN)) _
      generalize w.alloc (.cells zN TN) = W0 at *
      refine (take_some g s a c W0 HPS.out.rg HC.out (by omega)).mono ?_
      rintro e w1 ⟨rfl, hrg, hup⟩
      have HP1 := Lib.hid (HPS.out.go HG.out hrg hup)
      clear hrg hup HPS
      go_wp2_with fail
      clear j40 j91 j46 j92
      have hr := HR4.out
      cases hd : s.data.toList[a + 1]? with
      | none =>
        simp only [hd] at hr
        subst hr
        refine (take_none g s (a + 1) w1 HP1.out.rg hd (by omega)).mono ?_
        rintro e w3 ⟨rfl, hup⟩
        have HUP := Lib.hid (grown_trans HP1.out.up hup)
        clear hup HR4 HP1 hd
        go_wp2_with fail
        exact ⟨rfl, readIs_bad rfl HUP.out⟩
      | some d =>
      simp only [hd] at hr
      refine (take_some g s (a + 1) d w1 HP1.out.rg hd (by omega)).mono ?_
      rintro e w3 ⟨rfl, hrg, hup⟩
      have HP3 := Lib.hid (HP1.out.go HG.out hrg hup)
      subst hr
      clear hrg hup HR4 HP1 hd
      go_wp2_with fail
      refine (one_any d.toNat d.toNat_lt w3).mono ?_
      rintro e w4 ⟨rfl, hb⟩
      have HP4 := Lib.hid (HP3.out.on hb)
      have hK : IsT w4 (fun k => w.heap.size + 1 ≤ k) (.slice none 0 0) (one d.toNat) := IsT.nil _ _
      have HIS := Lib.hid hK
      clear hK hb HP3
      have HD := Lib.hid (HP4.out.done HG.out (Below.refl _ _) (HIS.out.imp (q := fun k => w.heap.size ≤ k) fun k hk _ => by omega) HIS.out)
      have HA := Lib.hid (node_all HIS.out)
      go_wp2_with (refine wpList_store_row rfl TN (.tmp 2) (.tmp 51) rfl w.heap.size (nodeC (one d.toNat) (.slice none 0 0)).toArray rfl rfl TN zN HP4.out.res (by kernel_rfl) rfl HA.out ?_)
      exact bodyPost_ret (results_cell_row rfl _ _ w.heap.size TN (nodeC (one d.toNat) (.slice none 0 0)).toArray (0, 0) _ rfl (setRow_heap _ _ _ _ _ _ HP4.out.res) Tryd.underlying66 rfl (by kernel_rfl)) rfl HD.out
    have j92 : ((c.toNat : Int) == 92) = false := nb e92
    have hr := HR3.out
    rw [if_neg e92] at hr
    have HR4 := Lib.hid hr
    clear hr HR3 e92
    by_cases e4 : c.toNat = 42 ∨ c.toNat = 43 ∨ c.toNat = 63 ∨ c.toNat = 93
    · have hr := HR4.out
      rw [if_pos e4] at hr
      have HR5 := Lib.hid hr
      clear hr HR4
      rcases e4 with h2 | h2 | h2 | h2
      all_goals
        have i1 := beq_lit 42 h2
        first | (have j1 : ((c.toNat : Int) == 42) = true := i1) | (have j1 : ((c.toNat : Int) == 42) = false := i1)
        clear i1
        have i2 := beq_lit 43 h2
        first | (have j2 : ((c.toNat : Int) == 43) = true := i2) | (have j2 : ((c.toNat : Int) == 43) = false := i2)
        clear i2
        have i3 := beq_lit 63 h2
        first | (have j3 : ((c.toNat : Int) == 63) = true := i3) | (have j3 : ((c.toNat : Int) == 63) = false := i3)
        clear i3
        have i4 := beq_lit 93 h2
        first | (have j4 : ((c.toNat : Int) == 93) = true := i4) | (have j4 : ((c.toNat : Int) == 93) = false := i4)
        clear i4 h2
        go_enter Tryd.func70, Tryd.ntmps70
        go_wp2_with fail
        change Calls _ _ _ (w.alloc (.cells zN TN)) _
        generalize w.alloc (.cells zN TN) = W0 at *
        refine (take_some g s a c W0 HPS.out.rg HC.out (by omega)).mono ?_
        rintro e w1 ⟨rfl, hrg, hup⟩
        have HP1 := Lib.hid (HPS.out.go HG.out hrg hup)
        clear hrg hup HPS
        have c1 := HP1.out.rg.c1
        have HUP := Lib.hid HP1.out.up
        have hr := HR5.out
        subst hr
        clear HR5 HP1
        go_wp2_with fail
        exact ⟨rfl, readIs_bad (by simp [wrongP]) HUP.out⟩
    have j1 : ((c.toNat : Int) == 42) = false := nb fun h => e4 (.inl h)
    have j2 : ((c.toNat : Int) == 43) = false := nb fun h => e4 (.inr (.inl h))
    have j3 : ((c.toNat : Int) == 63) = false := nb fun h => e4 (.inr (.inr (.inl h)))
    have j4 : ((c.toNat : Int) == 93) = false := nb fun h => e4 (.inr (.inr (.inr h)))
    have hr := HR4.out
    rw [if_neg e4] at hr
    have HR5 := Lib.hid hr
    clear hr HR4 e4
    go_enter Tryd.func70, Tryd.ntmps70
    go_wp2_with fail
    change Calls _ _ _ (w.alloc (.cells zN TN)) _
    generalize w.alloc (.cells zN TN) = W0 at *
    refine (take_some g s a c W0 HPS.out.rg HC.out (by omega)).mono ?_
    rintro e w1 ⟨rfl, hrg, hup⟩
    have HP1 := Lib.hid (HPS.out.go HG.out hrg hup)
    clear hrg hup HPS
    go_wp2_with fail
    refine (one_any c.toNat c.toNat_lt w1).mono ?_
    rintro e w3 ⟨rfl, hb⟩
    have HP3 := Lib.hid (HP1.out.on hb)
    have hr := HR5.out
    subst hr
    clear HR5 HP1 hb j40 j91 j46 j92 j1 j2 j3 j4
    have hK : IsT w3 (fun k => w.heap.size + 1 ≤ k) (.slice none 0 0) (one c.toNat) := IsT.nil _ _
    have HIS := Lib.hid hK
    clear hK
    have HD := Lib.hid (HP3.out.done HG.out (Below.refl _ _) (HIS.out.imp (q := fun k => w.heap.size ≤ k) fun k hk _ => by omega) HIS.out)
    have HA := Lib.hid (node_all HIS.out)
    go_wp2_with (refine wpList_store_row rfl TN (.tmp 2) (.tmp 11) rfl w.heap.size (nodeC (one c.toNat) (.slice none 0 0)).toArray rfl rfl TN zN HP3.out.res (by kernel_rfl) rfl HA.out ?_)
    exact bodyPost_ret (results_cell_row rfl _ _ w.heap.size TN (nodeC (one c.toNat) (.slice none 0 0)).toArray (0, 0) _ rfl (setRow_heap _ _ _ _ _ _ HP3.out.res) Tryd.underlying66 rfl (by kernel_rfl)) rfl HD.out

/-- all three, however much there is to read -/
theorem read_all : ∀ F : Nat, AltsC F ∧ RowC F ∧ AtomC F := by
  intro F
  induction F using Nat.strongRecOn with
  | _ F ih => exact ⟨either_step F fun f hf => (ih f hf).2.1, row_step F fun f hf => (ih f hf).2.2, atom_step F fun f hf => (ih f hf).1⟩

theorem either_any (g : Nat) (s : ByteArray) (w : World) (h : RG w g s 0) (hs : s.size ≤ 100000) :
    Calls Tryd.prog 53 #[.pointer (some ⟨g, 0, none⟩)] w (ReadIs g s w (alts (3 * s.size + 3) s.data.toList 0 [])) :=
  (read_all _).1 g s 0 w h (by omega) hs (by omega)

end Go.Proofs.YtfhggnbnbopkkaaDoor
