/- MatchCopies: a copy of a matcher goes on by itself, and one that is none takes nothing. -/
import Derived.Test.YtfhggnbnbopkkaaDoorMatFam
import Derived.LaidEqlPtr
namespace Go.Proofs.YtfhggnbnbopkkaaDoor
open Go.RowKit PM

set_option maxRecDepth 100000
theorem run_zero_one (ts : List T) (K : List UInt8) (F F' : List PM.Fd) (K1 K2 : List UInt8) (n n' : Nat) (s : List UInt8) (h : runR ts ([], K, 0) s = (F, K1, n)) (h' : runR ts ([], K, 0) s = (F', K2, n')) : F = F' ∧ K1 = K2 := by
  rw [h] at h'
  obtain ⟨h1, h2⟩ := Prod.mk.inj h'
  exact ⟨h1, (Prod.mk.inj h2).1⟩
theorem info_ma : (Tryd.prog.info? TMa).map (·.size) = some 3 := by kernel_rfl
/-- two matchers are two -/
theorem two_ptr {w : World} {a b : Nat} {ca cb : Array Value} (ha : w.heap[a]? = some (.cells ca TMa (0, 0))) (hb : w.heap[b]? = some (.cells cb TMa (0, 0))) (hne : a ≠ b) : (binOp .eql 36 (.pointer (some ⟨a, 0, none⟩)) (.pointer (some ⟨b, 0, none⟩))).run Tryd.prog w = .ok (.bool false) w := by
  obtain ⟨j, hj, hjs⟩ := Option.map_eq_some_iff.1 info_ma
  exact run_eql_ptr_other _ (te := TMa) Tryd.underlying36 hj (by rw [hjs]; decide) (fun e => hne (by cases e; rfl)) ha hb
set_option maxHeartbeats 16000000 in
theorem matchCopies_walk (A : Option Addr) (c : Nat) (ps : List Pat) (s s1 s2 : ByteArray) (w : World) (hP : PIn w A ps) (hn : ps.length ≤ 9223372036854775807) (h1 : s.size ≤ 140737488355327) (h2 : s1.size ≤ 140737488355327) (h3 : s2.size ≤ 140737488355327) (hT : Tab w) :
    Calls Tryd.prog 10 #[.slice A ps.length c, .string s, .string s1, .string s2] w fun e w' => e = .returned (.bool true) ∧ Below w.heap.size w w' := by
  have HW := Lib.hid (works_any w hT)
  have HI := Lib.hid (And.intro hP (And.intro hT hn))
  obtain ⟨n, hpn⟩ : ∃ n, ps.length = n := ⟨_, rfl⟩
  have HN := Lib.hid hpn
  rw [hpn] at hn
  rw [hpn]
  clear hP hT hpn
  have hz := zHit_run
  have hq := neq_hit0
  go_enter Tryd.func10, Tryd.ntmps10
  go_wp2_with fail
  refine HW.out.mono ?_
  rintro e W1 ⟨rfl, hup⟩
  have H1 := Lib.hid hup
  clear hup HW
  have HF := Lib.hid (feed_nil s W1)
  go_wp2_with fail
  refine HF.out.mono ?_
  rintro e W2 ⟨he, hup⟩
  have he2 : e = .returned (.tuple #[.int .i64 0, .agg #[.int .i64 0, .int .i64 0, .int .i64 0], .bool false]) := he
  subst he2
  clear he
  have hb := below_new W2 (.cells (hitC 0 0 0) THit)
  have H2 := Lib.hid (And.intro (below_then (below_then H1.out hup (Nat.le_refl _)) hb (Nat.le_refl _)) (heap_alloc_new W2 (.cells (hitC 0 0 0) THit)))
  clear hup hb HF H1
  go_upto_region 5 with (fail)
  change Code.wp _ _ _ _ (W2.alloc (.cells (hitC 0 0 0) THit))
  generalize W2.alloc (.cells (hitC 0 0 0) THit) = W3 at *
  generalize W2.heap.size = b1 at *
  obtain ⟨c0, c1, c2, _⟩ := box_cells H2.out.2
  have HB := Lib.hid (buffer_nil W3)
  have HC := Lib.hid (mcopy_nil W3)
  go_wp2_with fail
  refine HB.out.mono ?_
  rintro e W4 ⟨rfl, rfl⟩
  go_wp2_with fail
  refine HC.out.mono ?_
  rintro e W5 ⟨rfl, rfl⟩
  have H3 := Lib.hid H2.out.1
  clear c0 c1 c2 HB HC H2
  have HN1 := Lib.hid (new_any A c ps W5 (HI.out.1.on H3.out) (tab_on HI.out.2.1 H3.out) HI.out.2.2)
  rw [HN.out] at HN1
  go_wp2_with fail
  refine HN1.out.mono ?_
  rintro e W6 (⟨hno, rfl, hup⟩ | ⟨hmay, x, arms, R, rfl, hma, htr, hup, hge⟩)
  · have H6 := Lib.hid (And.intro (below_then H3.out hup (Nat.le_refl _)) hno)
    clear hno hup HN1
    have HN2 := Lib.hid (new_any A c ps W6 (HI.out.1.on H6.out.1) (tab_on HI.out.2.1 H6.out.1) HI.out.2.2)
    rw [HN.out] at HN2
    go_wp2_with fail
    refine HN2.out.mono ?_
    rintro e W7 (⟨_, rfl, hup⟩ | ⟨hmay, _⟩)
    · have H7 := Lib.hid (below_then H6.out.1 hup (Nat.le_refl _))
      clear hup HN2
      have HN3 := Lib.hid (new_any A c ps W7 (HI.out.1.on H7.out) (tab_on HI.out.2.1 H7.out) HI.out.2.2)
      rw [HN.out] at HN3
      go_wp2_with fail
      refine HN3.out.mono ?_
      rintro e W8 (⟨_, rfl, hup⟩ | ⟨hmay, _⟩)
      · have H8 := Lib.hid (below_then H7.out hup (Nat.le_refl _))
        clear hup HN3
        go_wp2_with fail
        go_ret
        exact ⟨rfl, H8.out⟩
      · exact absurd hmay H6.out.2
    · exact absurd hmay H6.out.2
  · have HFM : Hid (Fam w W6 ([] ++ [⟨x, arms, [], R, .slice none 0 0⟩])) := Lib.hid (Fam.add (W := W5) ⟨H3.out, fun i m h => (by simp at h), fun i j m m' k h => (by simp at h)⟩ hup hma (Nat.zero_le _) hge)
    have HTR := Lib.hid (And.intro hmay htr)
    clear hma htr hup hge hmay HN1 H3
    have HN2 := Lib.hid (new_any A c ps W6 (HI.out.1.on HFM.out.up) (tab_on HI.out.2.1 HFM.out.up) HI.out.2.2)
    rw [HN.out] at HN2
    go_wp2_with fail
    refine HN2.out.mono ?_
    rintro e W7 (⟨hno, _⟩ | ⟨_, y, arms2, R2, rfl, hma, htr, hup, hge⟩)
    · exact absurd HTR.out.1 hno
    · have HT2 := Lib.hid (htr.one HTR.out.2)
      have HFM2 := Lib.hid (Fam.add (m := ⟨y, arms2, [], R2, .slice none 0 0⟩) HFM.out hup hma (Nat.zero_le _) hge)
      clear hma htr hup hge HN2 HFM
      have HN3 := Lib.hid (new_any A c ps W7 (HI.out.1.on HFM2.out.up) (tab_on HI.out.2.1 HFM2.out.up) HI.out.2.2)
      rw [HN.out] at HN3
      go_wp2_with fail
      refine HN3.out.mono ?_
      rintro e W8 (⟨hno, _⟩ | ⟨_, z, arms3, R3, rfl, hma, htr, hup, hge⟩)
      · exact absurd HTR.out.1 hno
      · have HT3 := Lib.hid (htr.one HTR.out.2)
        have HFM3 := Lib.hid (Fam.add (m := ⟨z, arms3, [], R3, .slice none 0 0⟩) HFM2.out hup hma (Nat.zero_le _) hge)
        clear hma htr hup hge HN3 HFM2
        by_cases hbig : 600 < s.size + s1.size + s2.size
        · go_wp2_with fail
          go_ret
          exact ⟨rfl, HFM3.out.up⟩
        · have hs600 : s.size ≤ 600 := by omega
          have hs601 : s1.size ≤ 600 := by omega
          have hs602 : s2.size ≤ 600 := by omega
          have hnb : ¬ (600 : Int) < s.size + s1.size + s2.size := by omega
          have harms : 0 < arms.length := by
            have := HTR.out.2.1
            rw [List.length_map] at this
            have := HTR.out.1.1.1
            omega
          have HA10 := Lib.hid (fam_all HFM3.out (i := 0) rfl s (by omega))
          go_wp2_with fail
          refine HA10.out.mono ?_
          rintro e W10 ⟨v10, F10, K10, n10, R10, bv10, rfl, hF, hrun, hown, hFl, hkeep⟩
          have HF10 : Hid (Fam w W10 [⟨x, arms, K10, R10, bv10⟩, ⟨y, arms2, [], R2, .slice none 0 0⟩, ⟨z, arms3, [], R3, .slice none 0 0⟩]) := Lib.hid hF
          have HR10 := Lib.hid (And.intro hrun (And.intro hown (And.intro hFl hkeep)))
          clear hF hrun hown hFl hkeep HA10
          clear HFM3
          have hx10 := HF10.out.ma 0 _ rfl
          have HCP := Lib.hid (mcopy_any x arms K10 K10 R10 bv10 W10 hx10.1 harms (by have := hx10.2.1; simp only at this; omega) (by have := hx10.2.1; simp only at this; omega))
          have hxl : x.mb < W10.heap.size := hx10.1.lt (.inl rfl)
          have hk10 : K10.length ≤ 256 := hx10.2.1
          clear hx10
          go_wp2_with fail
          refine HCP.out.mono ?_
          rintro e W11 ⟨v, R11, bv11, rfl, hma, hup, hge⟩
          have hne1 : v.mb ≠ x.mb := by have := hge v.mb (.inl rfl); omega
          have hne2 : x.mb ≠ v.mb := Ne.symm hne1
          have HF11 : Hid (Fam w W11 [⟨x, arms, K10, R10, bv10⟩, ⟨y, arms2, [], R2, .slice none 0 0⟩, ⟨z, arms3, [], R3, .slice none 0 0⟩, ⟨v, arms, K10, R11, bv11⟩]) := Lib.hid (HF10.out.add (m := ⟨v, arms, K10, R11, bv11⟩) hup hma hk10 hge)
          clear hma hup hge HCP HF10 hxl
          have HB1 := Lib.hid (buffer_any W11 (HF11.out.ma 3 _ rfl).1)
          have HB2 := Lib.hid (buffer_any W11 (HF11.out.ma 0 _ rfl).1)
          simp only at HB1 HB2
          have hpe := two_ptr (HF11.out.ma 3 _ rfl).1.blk (HF11.out.ma 0 _ rfl).1.blk hne1
          simp only at hpe
          go_wp2_with fail
          refine HB1.out.mono ?_
          rintro e W12 ⟨rfl, rfl⟩
          go_wp2_with fail
          refine HB2.out.mono ?_
          rintro e W13 ⟨rfl, rfl⟩
          clear HB1 HB2 hpe
          have HA20 := Lib.hid (fam_all HF11.out (i := 1) rfl s (by omega))
          go_wp2_with fail
          refine HA20.out.mono ?_
          rintro e W20 ⟨v20, F20, K20, n20, R20, bv20, rfl, hF, hrun, hown, hFl, hkeep⟩
          have HF20 : Hid (Fam w W20 [⟨x, arms, K10, R10, bv10⟩, ⟨y, arms2, K20, R20, bv20⟩, ⟨z, arms3, [], R3, .slice none 0 0⟩, ⟨v, arms, K10, R11, bv11⟩]) := Lib.hid hF
          have HR20 := Lib.hid (And.intro hrun (And.intro hown (And.intro hFl hkeep)))
          clear hF hrun hown hFl hkeep HA20 HF11
          have HA21 := Lib.hid (fam_all HF20.out (i := 2) rfl s (by omega))
          go_wp2_with fail
          refine HA21.out.mono ?_
          rintro e W21 ⟨v21, F21, K21, n21, R21, bv21, rfl, hF, hrun, hown, hFl, hkeep⟩
          have HF21 : Hid (Fam w W21 [⟨x, arms, K10, R10, bv10⟩, ⟨y, arms2, K20, R20, bv20⟩, ⟨z, arms3, K21, R21, bv21⟩, ⟨v, arms, K10, R11, bv11⟩]) := Lib.hid hF
          have HR21 := Lib.hid (And.intro hrun (And.intro hown (And.intro hFl hkeep)))
          clear hF hrun hown hFl hkeep HA21 HF20
          have HA22 := Lib.hid (fam_all HF21.out (i := 0) rfl s1 (by omega))
          go_wp2_with fail
          refine HA22.out.mono ?_
          rintro e W22 ⟨v22, F22, K22, n22, R22, bv22, rfl, hF, hrun, hown, hFl, hkeep⟩
          have HF22 : Hid (Fam w W22 [⟨x, arms, K22, R22, bv22⟩, ⟨y, arms2, K20, R20, bv20⟩, ⟨z, arms3, K21, R21, bv21⟩, ⟨v, arms, K10, R11, bv11⟩]) := Lib.hid hF
          have HR22 := Lib.hid (And.intro hrun (And.intro hown (And.intro hFl hkeep)))
          clear hF hrun hown hFl hkeep HA22 HF21
          have HA23 := Lib.hid (fam_all HF22.out (i := 3) rfl s2 (by omega))
          go_wp2_with fail
          refine HA23.out.mono ?_
          rintro e W23 ⟨v23, F23, K23, n23, R23, bv23, rfl, hF, hrun, hown, hFl, hkeep⟩
          have HF23 : Hid (Fam w W23 [⟨x, arms, K22, R22, bv22⟩, ⟨y, arms2, K20, R20, bv20⟩, ⟨z, arms3, K21, R21, bv21⟩, ⟨v, arms, K23, R23, bv23⟩]) := Lib.hid hF
          have HR23 := Lib.hid (And.intro hrun (And.intro hown (And.intro hFl hkeep)))
          clear hF hrun hown hFl hkeep HA23 HF22
          have HA24 := Lib.hid (fam_all HF23.out (i := 1) rfl s1 (by omega))
          go_wp2_with fail
          refine HA24.out.mono ?_
          rintro e W24 ⟨v24, F24, K24, n24, R24, bv24, rfl, hF, hrun, hown, hFl, hkeep⟩
          have HF24 : Hid (Fam w W24 [⟨x, arms, K22, R22, bv22⟩, ⟨y, arms2, K24, R24, bv24⟩, ⟨z, arms3, K21, R21, bv21⟩, ⟨v, arms, K23, R23, bv23⟩]) := Lib.hid hF
          have HR24 := Lib.hid (And.intro hrun (And.intro hown (And.intro hFl hkeep)))
          clear hF hrun hown hFl hkeep HA24 HF23
          have HA25 := Lib.hid (fam_all HF24.out (i := 2) rfl s2 (by omega))
          go_wp2_with fail
          refine HA25.out.mono ?_
          rintro e W25 ⟨v25, F25, K25, n25, R25, bv25, rfl, hF, hrun, hown, hFl, hkeep⟩
          have HF25 : Hid (Fam w W25 [⟨x, arms, K22, R22, bv22⟩, ⟨y, arms2, K24, R24, bv24⟩, ⟨z, arms3, K25, R25, bv25⟩, ⟨v, arms, K23, R23, bv23⟩]) := Lib.hid hF
          have HR25 := Lib.hid (And.intro hrun (And.intro hown (And.intro hFl hkeep)))
          clear hF hrun hown hFl hkeep HA25 HF24
          have e1 : K20 = K10 := by
            have h := HR20.out.1
            rw [HT2.out] at h
            exact (run_zero_one _ _ _ _ _ _ _ _ _ h HR10.out.1).2
          have e2 : K21 = K10 := by
            have h := HR21.out.1
            rw [HT3.out] at h
            exact (run_zero_one _ _ _ _ _ _ _ _ _ h HR10.out.1).2
          subst e1 e2
          have e3 : F24 = F22 ∧ K24 = K22 := by
            have h := HR24.out.1
            rw [HT2.out] at h
            exact run_zero_one _ _ _ _ _ _ _ _ _ h HR22.out.1
          have e4 : F25 = F23 ∧ K25 = K23 := by
            have h := HR25.out.1
            rw [HT3.out] at h
            exact run_zero_one _ _ _ _ _ _ _ _ _ h HR23.out.1
          obtain ⟨rfl, rfl⟩ := e3
          obtain ⟨rfl, rfl⟩ := e4
          have o22 := HR25.out.2.2.2 _ _ _ (HR24.out.2.2.2 _ _ _ (HR23.out.2.2.2 _ _ _ HR22.out.2.1))
          have o23 := HR25.out.2.2.2 _ _ _ (HR24.out.2.2.2 _ _ _ HR23.out.2.1)
          have o24 := HR25.out.2.2.2 _ _ _ HR24.out.2.1
          have o25 := HR25.out.2.1
          have HSM := Lib.hid (same_eq v22 v24 _ _ F24 W25 o22 o24 HR24.out.2.2.1)
          have HO2 := Lib.hid (And.intro o23 (And.intro o25 HR25.out.2.2.1))
          clear o22 o23 o24 o25 HR20 HR21 HR22 HR23 HR24 HR25 HR10
          go_wp2_with fail
          refine HSM.out.mono ?_
          rintro e W26 ⟨rfl, hup⟩
          have HF26 := Lib.hid (HF25.out.on hup)
          have HSM2 := Lib.hid (same_eq v23 v25 _ _ F25 W26 (own_keep HO2.out.1 fun g hg => hup.block g (HO2.out.1.lt g hg).2) (own_keep HO2.out.2.1 fun g hg => hup.block g (HO2.out.2.1.lt g hg).2) HO2.out.2.2)
          clear hup HF25 HSM HO2
          go_wp2_with fail
          refine HSM2.out.mono ?_
          rintro e W27 ⟨rfl, hup⟩
          have HF27 := Lib.hid (HF26.out.on hup)
          clear hup HF26 HSM2
          have HB1 := Lib.hid (buffer_any W27 (HF27.out.ma 0 _ rfl).1)
          have HB2 := Lib.hid (buffer_any W27 (HF27.out.ma 1 _ rfl).1)
          have HB3 := Lib.hid (buffer_any W27 (HF27.out.ma 3 _ rfl).1)
          have HB4 := Lib.hid (buffer_any W27 (HF27.out.ma 2 _ rfl).1)
          simp only at HB1 HB2 HB3 HB4
          go_wp2_with fail
          refine HB1.out.mono ?_
          rintro e W28 ⟨rfl, rfl⟩
          go_wp2_with fail
          refine HB2.out.mono ?_
          rintro e W29 ⟨rfl, rfl⟩
          go_wp2_with fail
          refine HB3.out.mono ?_
          rintro e W30 ⟨rfl, rfl⟩
          go_wp2_with fail
          refine HB4.out.mono ?_
          rintro e W31 ⟨rfl, rfl⟩
          go_wp2_with fail
          go_ret
          exact ⟨by simp, HF27.out.up⟩
end Go.Proofs.YtfhggnbnbopkkaaDoor
