/- The document's bad and Unquote. -/
import Derived.Test.YtlfhjmdbkifciaaPatRefScan2
import Derived.Test.YtlfhjmdbkifciaaPatUnq2
import Derived.Test.YtlfhjmdbkifciaaPatPMath
namespace Go.Proofs.Ytlfhjmdbkifciaa
open Go.RowKit PM

theorem results_row1 {fn : Func} {p2 : Tmp} {t2 : TypeId} (h : fn.results = #[.cell p2 t2]) (tmps : Array Value) (W : World) (b2 : Nat) (Y : Value)
    (h2 : tmps.getD p2 undef = .pointer (some ⟨b2, 0, none⟩)) (l2 : (loadVar t2 ⟨b2, 0, none⟩).run Try.prog W = .ok Y W) :
    (results fn tmps).run Try.prog W = .ok Y W := by
  have h2' : tmps[p2]?.getD undef = .pointer (some ⟨b2, 0, none⟩) := by simpa using h2
  simp [results, h, h2', asAddr, l2]

set_option maxRecDepth 100000 in
theorem bad_any (k : Nat) (w : World) : Calls Try.prog 37 #[.int .i64 k] w fun e w' => e = .returned (spotV 6 k) ∧ Below w.heap.size w w' := by
  have hN := Lib.hid (heap_alloc_new w (.cells (spotC 6 k) TSp)); have HB := Lib.hid (below_new w (.cells (spotC 6 k) TSp))
  go_enter Try.func37, Try.ntmps37
  go_wp2_with fail
  exact bodyPost_ret (results_row1 rfl _ _ w.heap.size _ rfl (load_spot _ _ _ hN.out rfl)) rfl ⟨rfl, HB.out⟩

set_option maxRecDepth 100000 in
set_option maxHeartbeats 4000000 in
theorem runquote_any (s : ByteArray) (w : World) (hs : s.size ≤ 100000000) :
    Calls Try.prog 23 #[.string s] w fun e w' => e = .returned (unquoteV s) ∧ Below w.heap.size w w' := by
  have HS := Lib.hid (heap_alloc_new w (.cells (spotC 0 0) TSp)); have HB := Lib.hid (below_new w (.cells (spotC 0 0) TSp))
  go_enter Try.func23, Try.ntmps23
  go_wp2_with fail
  change Calls _ _ _ (w.alloc (.cells (spotC 0 0) TSp)) _
  generalize w.alloc (.cells (spotC 0 0) TSp) = W0 at *
  refine (rscan_any s 0 W0 hs (Nat.zero_le _)).mono ?_
  rintro e w1 hm
  obtain ⟨r, hr⟩ : ∃ r, scan (-1) s.data.toList 0 = r := ⟨_, rfl⟩
  rw [hr] at hm
  have HV : Hid (unquoteV s = unquoteR s.size r) := Lib.hid (by unfold unquoteV; rw [hr])
  have HRR := Lib.hid hr
  clear hr
  rcases r with ⟨out, pl⟩ | k | k
  · obtain ⟨v, rfl, hown, hb⟩ := hm
    have HS1 := Lib.hid ((hb.block _ (lt_of_block HS.out)).trans HS.out)
    have HB1 := Lib.hid (below_then HB.out hb (Nat.le_refl _))
    obtain ⟨ao, cap, rfl⟩ : ∃ ao cap, v = .slice ao pl.length cap := by
      rcases hown.2 with ⟨hv, h0⟩ | ⟨g, cap, cur, hv, _⟩
      · exact ⟨none, 0, by rw [hv, h0]⟩
      · exact ⟨_, _, hv⟩
    have hv := HV.out
    simp only [unquoteR] at hv
    obtain ⟨m, hm⟩ : ∃ m : Nat, pl.getLastD 0 + 1 = m := ⟨_, rfl⟩
    rw [hm] at hv ⊢
    have HV1 := Lib.hid hv
    clear hv HV hown hb hm HS HB
    by_cases hlt : m < s.size
    · have hv := HV1.out
      rw [if_pos hlt] at hv
      have HV2 := Lib.hid hv
      have hl2 : (m : Int) < s.size := by omega
      clear hlt hv HV1
      go_wp2_with fail
      refine (bad_any m w1).mono ?_
      rintro e w2 ⟨rfl, hb2⟩
      have HS2 := Lib.hid ((hb2.block _ (lt_of_block HS1.out)).trans HS1.out)
      have HB2 := Lib.hid (below_then HB1.out hb2 (Nat.le_refl _))
      simp only [spotV, spotC]
      clear hb2 HS1 HB1
      go_wp2_with (refine wpList_store_row rfl TSp (.tmp 3) (.tmp 24) rfl w.heap.size (spotC 6 m) rfl rfl TSp (spotC 0 0) HS2.out (by kernel_rfl) rfl (by simp [spotC, Value.oneCell']) ?_)
      exact bodyPost_ret (results_tmp_row rfl _ _ w.heap.size _ _ rfl rfl (load_spot _ _ _ (setRow_heap _ _ _ _ _ _ HS2.out) rfl)) rfl ⟨by rw [HV2.out]; rfl, HB2.out.trans (below_rowAt _ _ _ _ (Nat.le_refl _))⟩
    · have hv := HV1.out
      rw [if_neg hlt] at hv
      have HV2 := Lib.hid hv
      have hl2 : ¬ ((m : Int) < s.size) := by omega
      clear hlt hv HV1
      go_wp2_with (refine wpList_store_row rfl TSp (.tmp 3) (.tmp 26) rfl w.heap.size (spotC 0 0) rfl rfl TSp (spotC 0 0) HS1.out (by kernel_rfl) rfl (by simp [spotC, Value.oneCell']) ?_)
      exact bodyPost_ret (results_tmp_row rfl _ _ w.heap.size _ _ rfl rfl (load_spot _ _ _ (setRow_heap _ _ _ _ _ _ HS1.out) rfl)) rfl ⟨by rw [HV2.out]; rfl, HB1.out.trans (below_rowAt _ _ _ _ (Nat.le_refl _))⟩
  · obtain ⟨rfl, hb⟩ := hm
    have HS1 := Lib.hid ((hb.block _ (lt_of_block HS.out)).trans HS.out)
    have HB1 := Lib.hid (below_then HB.out hb (Nat.le_refl _))
    clear hb HS HB
    go_wp2_with fail
    refine (bad_any k w1).mono ?_
    rintro e w2 ⟨rfl, hb2⟩
    have HS2 := Lib.hid ((hb2.block _ (lt_of_block HS1.out)).trans HS1.out)
    have HB2 := Lib.hid (below_then HB1.out hb2 (Nat.le_refl _))
    simp only [spotV, spotC]
    clear hb2 HS1 HB1
    go_wp2_with (refine wpList_store_row rfl TSp (.tmp 3) (.tmp 24) rfl w.heap.size (spotC 6 k) rfl rfl TSp (spotC 0 0) HS2.out (by kernel_rfl) rfl (by simp [spotC, Value.oneCell']) ?_)
    exact bodyPost_ret (results_tmp_row rfl _ _ w.heap.size _ _ rfl rfl (load_spot _ _ _ (setRow_heap _ _ _ _ _ _ HS2.out) rfl)) rfl ⟨by rw [HV.out]; rfl, HB2.out.trans (below_rowAt _ _ _ _ (Nat.le_refl _))⟩
  · exact hm.elim
end Go.Proofs.Ytlfhjmdbkifciaa
