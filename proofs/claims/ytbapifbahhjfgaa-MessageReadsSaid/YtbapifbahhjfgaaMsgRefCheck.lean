/- The document's Check: the same errors. -/
import Derived.Test.YtbapifbahhjfgaaMsgSame2
namespace Go.Proofs.Ytbapifbahhjfgaa
open Go.RowKit

set_option maxRecDepth 100000 in
set_option maxHeartbeats 16000000 in
theorem refCheck_any (m : Msg) (A : Option Addr) (c : Nat) (w : World) (ha : EArg w w.heap.size A m.ents) (hn : m.ents.length ≤ 9223372036854775807) (hk : m.kind < 256) (hsz : ∀ x ∈ m.ents, x.2.size ≤ 16384) :
    Calls Try.prog 18 #[m.val (.slice A m.ents.length c)] w fun e w' => e = .returned (.int .i64 (m.check : Nat)) ∧ Below w.heap.size w w' := by
  have hM : MB (w.alloc (.cells (m.cells (.slice A m.ents.length c)).toArray TM)) w.heap.size m (.slice A m.ents.length c) := heap_alloc_new w _
  have hB0 := below_new w (.cells (m.cells (.slice A m.ents.length c)).toArray TM)
  have HM := Lib.hid hM; have HB0 := Lib.hid hB0; have HSZ := Lib.hid hsz
  clear hM hB0 hsz
  simp only [Msg.val]
  go_enter Try.func18, Try.ntmps18
  go_wp2_with (refine wpList_load_row rfl TM (.tmp 1) rfl w.heap.size rfl TM _ (0, 0) _ HM.out Try.underlying28 rfl (by kernel_rfl) ?_)
  refine (refNumbers_any m A c _).mono ?_
  rintro e w1 ⟨q, rfl, hq, hql, hc1, hb1⟩
  generalize Value.agg (m.cells (.slice A m.ents.length c)).toArray = V
  have HM1 := Lib.hid (MB.below HM.out hb1)
  have HB1 := Lib.hid (below_then HB0.out hb1 (Nat.le_refl _))
  have HA1 := Lib.hid ((ha.on HB0.out).on hb1)
  have HC1 := Lib.hid hc1
  clear hb1 hc1 HM HB0 ha hq
  obtain ⟨g, hg⟩ : ∃ g, w.heap.size = g := ⟨_, rfl⟩
  have HG := Lib.hid hg
  rw [hg] at HM1 ⊢
  clear hg
  have c0 := HM1.out.cell 0 _ rfl
  have c20 := HM1.out.cell 20 _ rfl
  have c21 := HM1.out.cell 21 _ rfl
  by_cases hh : m.headBad = true
  · have hx : m.check = 2 := by unfold Msg.check; rw [if_pos hh]
    have HX := Lib.hid hx
    have HH := Lib.hid hh
    clear hx hh
    go_wp2_with fail
    all_goals first
      | (go_ret; exact ⟨by rw [HX.out]; rfl, HB1.out⟩)
      | (exfalso; have hh := HH.out; simp [Msg.headBad] at hh; omega)
  have hx : m.check = (if m.numsBad = true then 2 else if (decide (4 < m.ents.length) || decide (3500 < m.data.size)) = true then 3 else entsCheck m.ents m.data.size) := by unfold Msg.check; rw [if_neg hh]
  have HX := Lib.hid hx
  simp [Msg.headBad] at hh
  obtain ⟨⟨⟨⟨⟨h1, h2⟩, h3⟩, h4⟩, h5⟩, h6⟩ := hh
  have d1 : decide ((m.kind : Int) < 1) = false := by simp; omega
  have d2 : decide (14 < (m.kind : Int)) = false := by simp; omega
  have d3 : decide (m.err < 0) = false := by simp; omega
  have d4 : decide (999 < m.err) = false := by simp; omega
  have d5 : decide (m.leader < 0) = false := by simp; omega
  have d6 : decide (3 < m.leader) = false := by simp; omega
  clear hx
  go_wp2_with fail
  clear c0 c20 c21 h1 h2 h3 h4 h5 h6 d1 d2 d3 d4 d5 d6
  go_loop [4] (fun i => ∃ k : Nat, k ≤ 15 ∧ i = .int .i64 k ∧ Hid (∀ j, j < k → numBad j (m.n j) = false)) (fun i => 15 - (intOf i).toNat)
  case atStart => exact ⟨0, by omega, rfl, Lib.hid (fun j h => absurd h (Nat.not_lt_zero _))⟩
  case round =>
    obtain ⟨k, hk15, rfl, HO⟩ := hrel
    by_cases hlt : k < 15
    · have hcell := HC1.out k hlt
      have hlt2 : (k : Int) < 15 := by omega
      have hk0 : (0 : Int) ≤ k := by omega
      have hstep : numBad k (m.n k) = false → ∀ j, j < k + 1 → numBad j (m.n j) = false := fun h j hj => by
        by_cases e : j = k
        · rw [e]; exact h
        · exact HO.out j (by omega)
      have hbad : numBad k (m.n k) = true → m.check = 2 := fun h => by rw [HX.out, if_pos (numsBad_of hlt h)]
      generalize m.n k = x at *
      have HST := Lib.hid hstep; have HBD := Lib.hid hbad
      clear hstep hbad HO
      by_cases hx : numBad k x = true
      · have hc2 := Lib.hid (HBD.out hx)
        have HXX := Lib.hid hx
        clear hx HST HBD
        go_wp2_with fail
        all_goals first
          | (go_ret; exact ⟨by rw [hc2.out]; rfl, HB1.out⟩)
          | (exfalso; have hx := HXX.out; simp [numBad] at hx; omega)
      · have hx1 : numBad k x = false := by simpa using hx
        have HXX := Lib.hid hx1
        clear hx hx1 HBD
        go_wp2_with fail
        all_goals first
          | (exfalso; have hx := HXX.out; simp [numBad] at hx; omega)
          | exact ⟨⟨k + 1, by omega, by go_num, Lib.hid (HST.out HXX.out)⟩, by simp [intOf]; omega⟩
    · have hnb := numsBad_no (m := m) (fun j hj => HO.out j (by omega))
      have hx := HX.out
      rw [if_neg (by rw [hnb]; simp)] at hx
      have HX2 := Lib.hid hx
      clear hx hnb HX HO
      have hge : ¬ ((k : Int) < 15) := by omega
      have c9 := HM1.out.cell 9 _ rfl
      have c12 := HM1.out.cell 12 _ rfl
      clear hlt
      by_cases hl : 4 < m.ents.length
      · have hd : decide (4 < (m.ents.length : Int)) = true := by simp; omega
        go_wp2_with fail
        go_ret
        exact ⟨by rw [HX2.out, if_pos (by simp; omega)]; rfl, HB1.out⟩
      have hd : decide (4 < (m.ents.length : Int)) = false := by simp; omega
      by_cases hl2 : 3500 < m.data.size
      · have hd2 : decide (3500 < (m.data.size : Int)) = true := by simp; omega
        go_wp2_with fail
        go_ret
        exact ⟨by rw [HX2.out, if_pos (by simp; omega)]; rfl, HB1.out⟩
      have hd2 : decide (3500 < (m.data.size : Int)) = false := by simp; omega
      have hx := HX2.out
      rw [if_neg (by simp; omega)] at hx
      have HX3 := Lib.hid hx
      clear hx HX2
      go_wp2_with fail
      clear hk15 hge
      go_loop [5, 6] (fun a i => ∃ k t : Nat, k ≤ m.ents.length ∧ i = .int .i64 k ∧ a = .int .i64 t ∧ t ≤ 3500 ∧ Hid (m.check = entsCheck (m.ents.drop k) t)) (fun _ i => m.ents.length - (intOf i).toNat)
      case atStart => exact ⟨0, m.data.size, by omega, rfl, rfl, by omega, HX3⟩
      case round =>
        obtain ⟨k, t, hkl, rfl, rfl, ht, HC⟩ := hrel
        by_cases hlt : k < m.ents.length
        · obtain ⟨ad, rfl, hadb, h1, h2⟩ := HA1.out k hlt
          have hlt2 : (k : Int) < m.ents.length := by omega
          have hk0 : (0 : Int) ≤ k := by omega
          have hc := HC.out
          rw [List.drop_eq_getElem_cons hlt] at hc
          simp only [entsCheck] at hc
          have HC2 := Lib.hid hc
          clear hc HC HX3
          have hz := HSZ.out m.ents[k] (List.getElem_mem hlt)
          generalize m.ents[k] = en at *
          obtain ⟨et, ed⟩ := en
          simp only [] at HC2 h1 h2 hz
          by_cases hb1 : (decide (et < 0) || decide (1125899906842624 < et)) = true
          · have hc := HC2.out
            rw [if_pos hb1] at hc
            have HC3 := Lib.hid hc; have HBB := Lib.hid hb1
            clear hc HC2 hb1
            go_wp2_with fail
            all_goals first
              | (go_ret; exact ⟨by rw [HC3.out]; rfl, HB1.out⟩)
              | (exfalso; have hx := HBB.out; simp at hx; omega)
          · have hc := HC2.out
            rw [if_neg hb1] at hc
            have HC3 := Lib.hid hc
            simp at hb1
            clear hc HC2
            obtain ⟨q1, q2⟩ := hb1
            have d1 : decide (et < 0) = false := by simp; omega
            have d2 : decide (1125899906842624 < et) = false := by simp; omega
            have hz' : (ed.size : Int) ≤ 16384 := by omega
            have ht' : (t : Int) ≤ 3500 := by omega
            by_cases hb2 : 3500 < t + ed.size
            · have hc := HC3.out
              rw [if_pos hb2] at hc
              have HC4 := Lib.hid hc
              have hsum : (3500 : Int) < t + ed.size := by omega
              clear hc HC3
              go_wp2_with fail
              go_ret
              exact ⟨by rw [HC4.out]; rfl, HB1.out⟩
            · have hc := HC3.out
              rw [if_neg hb2] at hc
              have HC4 := Lib.hid hc
              have hsum : (t : Int) + ed.size ≤ 3500 := by omega
              clear hc HC3
              go_wp2_with fail
              exact ⟨⟨k + 1, t + ed.size, by omega, by go_num, by go_num, by omega, HC4⟩, by simp [intOf]; omega⟩
        · have hge : ¬ ((k : Int) < m.ents.length) := by omega
          have hc := HC.out
          rw [List.drop_of_length_le (by omega)] at hc
          have HC2 := Lib.hid hc
          clear hc HC HX3
          go_wp2_with fail
          go_ret
          exact ⟨by rw [HC2.out]; rfl, HB1.out⟩

end Go.Proofs.Ytbapifbahhjfgaa
