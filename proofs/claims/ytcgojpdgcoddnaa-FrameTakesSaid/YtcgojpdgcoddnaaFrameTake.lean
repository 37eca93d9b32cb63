/- Package frame, Take. -/
import Derived.Test.YtcgojpdgcoddnaaFrameWalks
namespace Go.Proofs.Ytcgojpdgcoddnaa
open Go.RowKit

theorem ext_bs (s : ByteArray) (a b : Nat) : s.extract a b = bs ((s.data.toList.drop a).take (b - a)) := by
  rw [← Lib.extract_data]; rfl

/-- what Take gives back -/
def tookV (r : List UInt8 × Nat × Nat) : Value := .tuple #[.string (bs r.1), .int .i64 r.2.1, .int .i64 r.2.2]

set_option maxRecDepth 100000 in
set_option maxHeartbeats 4000000 in
theorem take_any (s : ByteArray) (w : World) (hs : s.size ≤ 4611686018427387904) :
    Calls Try.prog 11 #[.string s] w fun e w' => e = .returned (tookV (FM.take s.data.toList)) ∧ Below w.heap.size w w' := by
  have hsz : s.data.toList.length = s.size := rfl
  by_cases h8 : s.size < 8
  · have hx : FM.take s.data.toList = ([], 0, 30) := by unfold FM.take; rw [if_pos (by omega)]
    rw [hx]; clear hx
    have hd : decide ((s.size : Int) < 8) = true := by simp; omega
    go_enter Try.func11, Try.ntmps11
    go_wp2
    exact bodyPost_ret (results_tmp3 rfl _ _ _) rfl ⟨rfl, Below.refl _ _⟩
  have hd : decide ((s.size : Int) < 8) = false := by simp; omega
  have q1 := num_ok_long (l := s.data.toList) (k := 4) (a := 0) (by omega)
  have q2 := num_ok_long (l := s.data.toList) (k := 4) (a := 0 + 4) (by omega)
  have l1 := WM.val_lt (s.data.toList.take 4)
  have l2 := WM.val_lt ((s.data.toList.drop 4).take 4)
  have ll1 : (s.data.toList.take 4).length = 4 := by rw [List.length_take]; omega
  have ll2 : ((s.data.toList.drop 4).take 4).length = 4 := by rw [List.length_take, List.length_drop]; omega
  rw [ll1] at l1
  rw [ll2] at l2
  rw [List.drop_zero] at q1
  have hx : FM.take s.data.toList = (if 4096 < WM.val (s.data.toList.take 4) ∨ WM.val ((s.data.toList.drop 4).take 4) ≠ CrcMath.crc (s.data.toList.take 4) then ([], 0, 7)
    else if s.size < 12 + WM.val (s.data.toList.take 4) then ([], 0, 30)
    else if WM.val ((s.data.toList.drop (8 + WM.val (s.data.toList.take 4))).take 4) ≠ CrcMath.crc ((s.data.toList.drop 8).take (WM.val (s.data.toList.take 4))) then ([], 0, 7)
    else ((s.data.toList.drop 8).take (WM.val (s.data.toList.take 4)), 12 + WM.val (s.data.toList.take 4), 0)) := by
    unfold FM.take; rw [if_neg (by omega), hsz]
  rw [hx]; clear hx ll1 ll2
  have hp4 : s.extract 0 4 = bs (s.data.toList.take 4) := by rw [ext_bs]; rfl
  have HP4 := Lib.hid hp4
  have hcr := crc32 (s.data.toList.take 4)
  generalize hn : WM.val (s.data.toList.take 4) = n at *
  generalize ho : WM.val ((s.data.toList.drop 4).take 4) = own at *
  generalize hcr' : CrcMath.crc (s.data.toList.take 4) = cr at *
  have HCR := Lib.hid hcr'
  generalize hr' : (if 4096 < n ∨ own ≠ cr then ([], 0, 7) else _ : List UInt8 × Nat × Nat) = r
  have HR := Lib.hid hr'
  have l1' : n < 4294967296 := by simpa using l1
  have l2' : own < 4294967296 := by simpa using l2
  have Q1 := Lib.hid q1; have Q2 := Lib.hid q2
  clear q1 q2 l1 l2 hn ho hp4 hcr' hsz hr'
  have hle4 : (4 : Int) ≤ s.size := by omega
  go_enter Try.func11, Try.ntmps11
  go_wp2_with fail
  refine (new_any s w w.heap.size (Nat.le_refl _)).mono ?_
  rintro e w1 ⟨g, rfl, hg, hr, hb1⟩
  have H1 := rdU32_any g s _ w1 hr (by omega)
  rw [Q1.out] at H1
  have HC1 := Lib.hid H1; have HB1 := Lib.hid hb1
  clear H1 hr hb1
  go_wp2_with fail
  refine HC1.out.mono ?_
  rintro e w2 ⟨rfl, hr2, hg2⟩
  have H2 := rdU32_any g s _ w2 hr2 (by omega)
  rw [Q2.out] at H2
  have HC2 := Lib.hid H2; have HB2 := Lib.hid (below_only' HB1.out hg2 (Nat.le_refl _) hg)
  clear H2 hr2 hg2 HC1
  go_wp2_with fail
  refine HC2.out.mono ?_
  rintro e w3 ⟨rfl, hr3, hg3⟩
  have HB3 := Lib.hid (below_only' HB2.out hg3 (Nat.le_refl _) hg)
  clear hr3 hg3 HC2
  by_cases hbig : 4096 < n
  · have e1 : decide (4096 < (n : Int)) = true := by simp; omega
    go_wp2_with fail
    have hr := HR.out
    rw [if_pos (Or.inl hbig)] at hr
    subst hr
    exact bodyPost_ret (results_tmp3 rfl _ _ _) rfl ⟨rfl, HB3.out⟩
  have e1 : decide (4096 < (n : Int)) = false := by simp; omega
  go_wp2_with fail
  refine (of_any _ _ (by rw [HP4.out, bs_size, List.length_take]; omega)).mono ?_
  rintro e w4 ⟨rfl, hb4⟩
  rw [HP4.out, bs_list, HCR.out]
  have HB4 := Lib.hid (below_then HB3.out hb4 (Nat.le_refl _))
  clear hb4
  by_cases hown : own = cr
  · have hr := HR.out
    rw [if_neg (by rintro (h | h) <;> first | omega | exact h hown)] at hr
    have HR2 := Lib.hid hr; clear hr HR
    have e2 : ((own : Int) != cr) = false := by rw [bne_eq_false_iff_eq]; omega
    subst hown
    by_cases hshort : s.size < 12 + n
    · have e3 : decide ((s.size : Int) < 8 + (n : Int) + 4) = true := by simp; omega
      go_wp2_with fail
      have hr := HR2.out
      rw [if_pos hshort] at hr
      subst hr
      exact bodyPost_ret (results_tmp3 rfl _ _ _) rfl ⟨rfl, HB4.out⟩
    · have hr := HR2.out
      rw [if_neg hshort] at hr
      have HR3 := Lib.hid hr; clear hr HR2
      have e3 : decide ((s.size : Int) < 8 + (n : Int) + 4) = false := by simp; omega
      have e4 : (0 : Int) ≤ 8 + n := by omega
      have e5 : (8 : Int) + n ≤ s.size := by omega
      have e6 : (8 : Int) ≤ 8 + n := by omega
      have e7 : ((8 : Int) + n).toNat = 8 + n := by omega
      go_wp2_with fail
      have hx1 : (s.extract (8 + n) s.size).data.toList = s.data.toList.drop (8 + n) := by
        rw [Lib.extract_data, List.take_of_length_le (by rw [List.length_drop]; exact Nat.le_refl _)]
      have hx2 : s.extract 8 (8 + n) = bs ((s.data.toList.drop 8).take n) := by rw [ext_bs]; congr 2; omega
      have hxs : (s.extract (8 + n) s.size).size = s.size - (8 + n) := by rw [ByteArray.size_extract]; omega
      have hln : ((s.data.toList.drop 8).take n).length ≤ n := List.length_take_le _ _
      have q3 := num_ok_long (l := (s.extract (8 + n) s.size).data.toList) (k := 4) (a := 0) (by show _ ≤ (s.extract (8 + n) s.size).size; omega)
      rw [List.drop_zero, hx1] at q3
      have l3 := WM.val_lt ((s.data.toList.drop (8 + n)).take 4)
      have ll3 : ((s.data.toList.drop (8 + n)).take 4).length = 4 := by rw [List.length_take, List.length_drop]; show min 4 (s.size - _) = 4; omega
      rw [ll3] at l3
      have hcr3 := crc32 ((s.data.toList.drop 8).take n)
      rw [hx2]
      generalize hP : (s.data.toList.drop 8).take n = pl at *
      generalize hV : WM.val ((s.data.toList.drop (8 + n)).take 4) = v3 at *
      generalize hC : CrcMath.crc pl = c3 at *
      have l3' : v3 < 4294967296 := by simpa using l3
      have hxsz : (s.extract (8 + n) s.size).size ≤ 4611686018427387904 := by omega
      rw [← hx1] at q3
      have HC := Lib.hid hC; have Q3 := Lib.hid q3
      clear hx1 hx2 hxs q3 l3 ll3 hP hV hC
      generalize s.extract (8 + n) s.size = s3 at *
      refine (new_any s3 w4 w.heap.size HB4.out.size).mono ?_
      rintro e w5 ⟨g5, rfl, hg5, hr5, hb5⟩
      have H5 := rdU32_any g5 s3 _ w5 hr5 hxsz
      rw [Q3.out] at H5
      have HC5 := Lib.hid H5
      have HB5 := Lib.hid (below_then HB4.out hb5 (Nat.le_refl _))
      clear H5 hr5 hb5
      go_wp2_with fail
      refine HC5.out.mono ?_
      rintro e w6 ⟨rfl, hr6, hg6⟩
      have HB6 := Lib.hid (below_only' HB5.out hg6 (Nat.le_refl _) hg5)
      clear hr6 hg6 HC5
      go_wp2_with fail
      refine (of_any _ _ (by rw [bs_size]; omega)).mono ?_
      rintro e w7 ⟨rfl, hb7⟩
      rw [bs_list, HC.out]
      have HB7 := Lib.hid (below_then HB6.out hb7 (Nat.le_refl _))
      clear hb7
      by_cases hv : v3 = c3
      · have e8 : ((v3 : Int) != c3) = false := by rw [bne_eq_false_iff_eq]; omega
        have hr := HR3.out
        rw [if_neg (by simp [hv])] at hr
        have HR4 := Lib.hid hr; clear hr HR3
        go_wp2_with fail
        have hr := HR4.out
        subst hr
        refine bodyPost_ret (results_tmp3 rfl _ _ _) rfl ⟨?_, HB7.out⟩
        have e9 : ((8 : Int) + n + 4) = ((12 + n : Nat) : Int) := by omega
        show Ending.returned (.tuple #[_, .int .i64 (8 + (n : Int) + 4), _]) = _
        rw [e9]; rfl
      · have e8 : ((v3 : Int) != c3) = true := by rw [bne_iff_ne]; omega
        have hr := HR3.out
        rw [if_pos hv] at hr
        have HR4 := Lib.hid hr; clear hr HR3
        go_wp2_with fail
        have hr := HR4.out
        subst hr
        exact bodyPost_ret (results_tmp3 rfl _ _ _) rfl ⟨rfl, HB7.out⟩
  · have e2 : ((own : Int) != cr) = true := by rw [bne_iff_ne]; omega
    go_wp2_with fail
    have hr := HR.out
    rw [if_pos (Or.inr hown)] at hr
    subst hr
    exact bodyPost_ret (results_tmp3 rfl _ _ _) rfl ⟨rfl, HB4.out⟩

end Go.Proofs.Ytcgojpdgcoddnaa
