/- NfaJoins: patterns one behind the other, either of two, one or none. -/
import Derived.Test.YtpiflikblpfgoaaDoorNfaWorks
import Derived.Test.YtpiflikblpfgoaaDoorNfaJoinMath
namespace Go.Proofs.YtpiflikblpfgoaaDoor
open Go.RowKit PM

theorem re_tree {s : ByteArray} {t : T} (ht : tree 3 s.data.toList = .ok t) (w : World) (hs : s.size ≤ 9223372036854775807) (hT : Tab w) :
    Calls Tryd.prog 22 #[.string s] w fun e w' => ∃ b A, e = .returned (.pointer (some ⟨b, 0, none⟩)) ∧ NetIs w' b t A ∧ Below w.heap.size w w' :=
  (re_any s w hs hT).mono fun e w' h => by
    rcases h with ⟨t', b, A, ht', he, hn, _, hb⟩ | ⟨hno, _, _⟩
    · rw [ht] at ht'; cases ht'
      exact ⟨b, A, he, hn, hb⟩
    · exact absurd ht (hno t)

/-- does it fall apart at one of the first places? -/
def splitTo (x y : T) (l : List UInt8) (i : Nat) : Bool := (List.range i).any fun k => fitsB x (l.take k) && fitsB y (l.drop k)
theorem splitTo_succ (x y : T) (l : List UInt8) (i : Nat) : splitTo x y l (i + 1) = (splitTo x y l i || (fitsB x (l.take i) && fitsB y (l.drop i))) := by simp [splitTo, List.range_succ]

theorem ext_take (s : ByteArray) (i : Nat) : (s.extract 0 i).data.toList = s.data.toList.take i := by simp [ByteArray.data_extract]
theorem ext_drop (s : ByteArray) (i : Nat) : (s.extract i s.size).data.toList = s.data.toList.drop i := by
  have : s.data.toList.length = s.size := rfl
  simp [ByteArray.data_extract, List.take_of_length_le, this]
theorem ext_size (s : ByteArray) (i j : Nat) : (s.extract i j).size ≤ s.size := by simp [ByteArray.size_extract]; omega

theorem empty_no {s : ByteArray} (h : s.size ≤ 0) : s.toList.isEmpty = true ∧ (s.toList == (⟨#[]⟩ : ByteArray).toList) = true ∧ (s.toList == []) = true := by
  have h2 : s.data.toList.length = s.size := rfl
  have h3 : s.data.toList = [] := List.length_eq_zero_iff.1 (by omega)
  refine ⟨?_, ?_, ?_⟩
  · rw [ByteArray.toList_eq, h3]; rfl
  · rw [ByteArray.toList_eq, ByteArray.toList_eq, h3]; rfl
  · rw [ByteArray.toList_eq, h3]; rfl
theorem empty_yes {s : ByteArray} (h : 0 < s.size) : s.toList.isEmpty = false ∧ (s.toList == (⟨#[]⟩ : ByteArray).toList) = false ∧ (s.toList == []) = false := by
  have h2 : s.data.toList.length = s.size := rfl
  obtain ⟨a, l, h3⟩ : ∃ a l, s.data.toList = a :: l := by
    cases h4 : s.data.toList with
    | nil => rw [h4] at h2; simp at h2; omega
    | cons a l => exact ⟨a, l, rfl⟩
  refine ⟨?_, ?_, ?_⟩
  · rw [ByteArray.toList_eq, h3]; rfl
  · rw [ByteArray.toList_eq, ByteArray.toList_eq, h3]; rfl
  · rw [ByteArray.toList_eq, h3]; rfl

theorem join_cat (a c : ByteArray) : ((⟨#[40]⟩ : ByteArray) ++ a ++ ⟨#[41, 40]⟩ ++ c ++ ⟨#[41]⟩).data.toList = 40 :: (a.data.toList ++ 41 :: 40 :: (c.data.toList ++ [41])) := by simp [ByteArray.data_append]
theorem join_alt (a c : ByteArray) : ((⟨#[40]⟩ : ByteArray) ++ a ++ ⟨#[41, 124, 40]⟩ ++ c ++ ⟨#[41]⟩).data.toList = 40 :: (a.data.toList ++ 41 :: 124 :: 40 :: (c.data.toList ++ [41])) := by simp [ByteArray.data_append]
theorem join_opt (a : ByteArray) : ((⟨#[40]⟩ : ByteArray) ++ a ++ ⟨#[41, 63]⟩).data.toList = 40 :: (a.data.toList ++ [41, 63]) := by simp [ByteArray.data_append]

set_option maxRecDepth 100000 in
set_option maxHeartbeats 8000000 in
theorem nfaJoins_walk (a c s : ByteArray) (w : World) (ha : a.size ≤ 140737488355327) (hc : c.size ≤ 140737488355327) (_hs : s.size ≤ 140737488355327) (hT : Tab w) :
    Calls Tryd.prog 6 #[.string a, .string c, .string s] w fun e w' => e = .returned (.bool true) ∧ Below w.heap.size w w' := by
  have HT := Lib.hid hT
  clear hT
  go_enter Tryd.func6, Tryd.ntmps6
  go_wp2_with fail
  refine (works_any w HT.out).mono ?_
  rintro e w1 ⟨rfl, hb1⟩
  have HB1 := Lib.hid hb1
  have HT1 := Lib.hid (HT.out.on hb1)
  clear hb1
  go_wp2_with fail
  refine (re_any a w1 (by omega) HT1.out).mono ?_
  rintro e w2 (⟨tx, bx, Ax, hx, rfl, hnx, _, hbx⟩ | ⟨_, rfl, hbx⟩)
  · have HX := Lib.hid hx; have HNx2 := Lib.hid hnx
    have HB2 := Lib.hid (below_then HB1.out hbx (Nat.le_refl _)); have HT2 := Lib.hid (HT.out.on HB2.out)
    clear hx hnx hbx
    go_wp2_with fail
    refine (re_any c w2 (by omega) HT2.out).mono ?_
    rintro e w3 (⟨ty, by_, Ay, hy, rfl, hny, _, hbx⟩ | ⟨_, rfl, hbx⟩)
    · have HY := Lib.hid hy; have HNy3 := Lib.hid hny; have HNx3 := Lib.hid (HNx2.out.on hbx)
      have HB3 := Lib.hid (below_then HB2.out hbx (Nat.le_refl _)); have HT3 := Lib.hid (HT.out.on HB3.out)
      clear hy hny hbx
      by_cases hl : 64 < a.size + c.size + 5
      · have h1 : decide (64 < (a.size : Int) + c.size + 5) = true := by simp; omega
        go_wp2_with fail
        go_ret
        exact ⟨rfl, HB3.out⟩
      · have h1 : decide (64 < (a.size : Int) + c.size + 5) = false := by simp; omega
        by_cases hl2 : 60 < s.size
        · have h2 : decide (60 < (s.size : Int)) = true := by simp; omega
          go_wp2_with fail
          go_ret
          exact ⟨rfl, HB3.out⟩
        · have h2 : decide (60 < (s.size : Int)) = false := by simp; omega
          have hl3 : a.size + c.size ≤ 59 := by omega
          go_wp2_with fail
          have hla : a.data.toList.length = a.size := rfl
          have hlc : c.data.toList.length = c.size := rfl
          have HCAT := Lib.hid (group_cat HX.out HY.out (by omega))
          have HALT := Lib.hid (group_alt HX.out HY.out (by omega))
          have HOPT := Lib.hid (group_sign HX.out (by omega) 63 7 (.inr (.inr ⟨rfl, rfl⟩)))
          clear hla hlc
          generalize hS1 : (⟨#[40]⟩ : ByteArray) ++ a ++ ⟨#[41, 40]⟩ ++ c ++ ⟨#[41]⟩ = S1 at *
          have htS1 : tree 3 S1.data.toList = .ok (.mk 3 noSet [tx, ty]) := by rw [← hS1, join_cat]; exact HCAT.out
          have hzS1 : S1.size ≤ 1000 := by
            have e0 : S1.data.toList.length = S1.size := rfl
            rw [← e0, ← hS1, join_cat]
            have e1 : a.data.toList.length = a.size := rfl
            have e2 : c.data.toList.length = c.size := rfl
            have e3 := e2; simp only [List.length_cons, List.length_append, List.length_nil, e1]; omega
          have HTS1 := Lib.hid htS1
          refine (re_tree htS1 w3 (by omega) HT3.out).mono ?_
          rintro e w4 ⟨bC, AC, rfl, hn, hbx⟩
          have HNC4 := Lib.hid hn; have HNx4 := Lib.hid (HNx3.out.on hbx); have HNy4 := Lib.hid (HNy3.out.on hbx); have HB4 := Lib.hid (below_then HB3.out hbx (Nat.le_refl _)); have HT4 := Lib.hid (HT.out.on HB4.out)
          clear hn hbx htS1 hS1
          go_wp2_with fail
          generalize hS2 : (⟨#[40]⟩ : ByteArray) ++ a ++ ⟨#[41, 124, 40]⟩ ++ c ++ ⟨#[41]⟩ = S2 at *
          have htS2 : tree 3 S2.data.toList = .ok (.mk 4 noSet [tx, ty]) := by rw [← hS2, join_alt]; exact HALT.out
          have hzS2 : S2.size ≤ 1000 := by
            have e0 : S2.data.toList.length = S2.size := rfl
            rw [← e0, ← hS2, join_alt]
            have e1 : a.data.toList.length = a.size := rfl
            have e2 : c.data.toList.length = c.size := rfl
            have e3 := e2; simp only [List.length_cons, List.length_append, List.length_nil, e1]; omega
          have HTS2 := Lib.hid htS2
          refine (re_tree htS2 w4 (by omega) HT4.out).mono ?_
          rintro e w5 ⟨bL, AL, rfl, hn, hbx⟩
          have HNL5 := Lib.hid hn; have HNx5 := Lib.hid (HNx4.out.on hbx); have HNy5 := Lib.hid (HNy4.out.on hbx); have HNC5 := Lib.hid (HNC4.out.on hbx); have HB5 := Lib.hid (below_then HB4.out hbx (Nat.le_refl _)); have HT5 := Lib.hid (HT.out.on HB5.out)
          clear hn hbx htS2 hS2
          go_wp2_with fail
          generalize hS3 : (⟨#[40]⟩ : ByteArray) ++ a ++ ⟨#[41, 63]⟩ = S3 at *
          have htS3 : tree 3 S3.data.toList = .ok (over 7 tx) := by rw [← hS3, join_opt]; exact HOPT.out
          have hzS3 : S3.size ≤ 1000 := by
            have e0 : S3.data.toList.length = S3.size := rfl
            rw [← e0, ← hS3, join_opt]
            have e1 : a.data.toList.length = a.size := rfl
            have e2 : c.data.toList.length = c.size := rfl
            have e3 := e2; simp only [List.length_cons, List.length_append, List.length_nil, e1]; omega
          have HTS3 := Lib.hid htS3
          refine (re_tree htS3 w5 (by omega) HT5.out).mono ?_
          rintro e w6 ⟨bO, AO, rfl, hn, hbx⟩
          have HNO6 := Lib.hid hn; have HNx6 := Lib.hid (HNx5.out.on hbx); have HNy6 := Lib.hid (HNy5.out.on hbx); have HNC6 := Lib.hid (HNC5.out.on hbx); have HNL6 := Lib.hid (HNL5.out.on hbx); have HB6 := Lib.hid (below_then HB5.out hbx (Nat.le_refl _)); have HT6 := Lib.hid (HT.out.on HB6.out)
          clear hn hbx htS3 hS3
          go_wp2_with fail
          change Code.wp _ _ _ _ _
          go_loopg [13, 12] (s.size + 2) (fun k v13 v12 wr => ∃ i : Nat, v13 = .int .i64 i ∧ i ≤ s.size + 1 ∧ s.size + 2 - i ≤ k ∧ v12 = .bool (splitTo tx ty s.data.toList i) ∧ Hid (Below w6.heap.size w6 wr))
          case atStart => exact ⟨0, rfl, by omega, by omega, rfl, Lib.hid (Below.refl _ _)⟩
          case round =>
            obtain ⟨i, rfl, hi, hik, rfl, HS⟩ := hrel
            have HNx := Lib.hid (HNx6.out.on HS.out); have HNy := Lib.hid (HNy6.out.on HS.out); have HTr := Lib.hid (HT6.out.on HS.out)
            have HSU := Lib.hid (splitTo_succ tx ty s.data.toList i)
            by_cases hlt : i ≤ s.size
            · have h3 : (i : Int) ≤ s.size := by omega
              have h4 : (0 : Int) ≤ i := by omega
              have h5 : (i : Int) ≤ 60 := by omega
              cases hsp : splitTo tx ty s.data.toList i with
              | true =>
                rw [hsp] at HSU
                clear hsp
                go_wp2_with fail
                go_roundg (gk - 1)
                case measure => omega
                case rel => exact ⟨i + 1, by go_num, by omega, by omega, by rw [HSU.out]; rfl, HS⟩
              | false =>
                rw [hsp] at HSU
                clear hsp
                go_wp2_with fail
                refine (match_any bx tx Ax (s.extract 0 i) wr HNx.out HTr.out (by have := ext_size s 0 i; omega)).mono ?_
                rintro e wp ⟨rfl, hbx⟩
                rw [ext_take]
                have HSp := Lib.hid (below_then HS.out hbx (Nat.le_refl _)); have HNyp := Lib.hid (HNy.out.on hbx); have HTp := Lib.hid (HTr.out.on hbx)
                clear hbx
                cases hfx : fitsB tx (s.data.toList.take i) with
                | false =>
                  rw [hfx] at HSU
                  clear hfx
                  go_wp2_with fail
                  go_roundg (gk - 1)
                  case measure => omega
                  case rel => exact ⟨i + 1, by go_num, by omega, by omega, by rw [HSU.out]; rfl, HSp⟩
                | true =>
                  rw [hfx] at HSU
                  clear hfx
                  go_wp2_with fail
                  refine (match_any by_ ty Ay (s.extract i s.size) wp HNyp.out HTp.out (by have := ext_size s i s.size; omega)).mono ?_
                  rintro e wq ⟨rfl, hbx⟩
                  rw [ext_drop]
                  have HSq := Lib.hid (below_then HSp.out hbx (Nat.le_refl _))
                  clear hbx
                  generalize fitsB ty (s.data.toList.drop i) = F at *
                  go_wp2_with fail
                  go_roundg (gk - 1)
                  case measure => omega
                  case rel => exact ⟨i + 1, by go_num, by omega, by omega, by rw [HSU.out]; simp, HSq⟩
            · obtain rfl : i = s.size + 1 := by omega
              have HB7 := Lib.hid (below_then HB6.out HS.out (Nat.le_refl _))
              have HNx7 := Lib.hid (HNx6.out.on HS.out); have HNy7 := Lib.hid (HNy6.out.on HS.out); have HNC7 := Lib.hid (HNC6.out.on HS.out); have HNL7 := Lib.hid (HNL6.out.on HS.out); have HNO7 := Lib.hid (HNO6.out.on HS.out)
              have HSZ := Lib.hid (show s.size ≤ 1000000 by omega)
              have HFC := Lib.hid (fits_cat HX.out HY.out HTS1.out s.data.toList)
              have HFL := Lib.hid (fits_alt HX.out HY.out HTS2.out s.data.toList)
              have HFO := Lib.hid (fits_opt HX.out HTS3.out s.data.toList)
              have hsp : ((List.range (s.data.toList.length + 1)).any fun i => fitsB tx (s.data.toList.take i) && fitsB ty (s.data.toList.drop i)) = splitTo tx ty s.data.toList (s.size + 1) := rfl
              rw [hsp] at HFC
              clear hsp HS HNx HNy HTr HSU
              generalize wr = w7 at *
              have hself : (splitTo tx ty s.data.toList (s.size + 1) == splitTo tx ty s.data.toList (s.size + 1)) = true := by simp
              generalize splitTo tx ty s.data.toList (s.size + 1) = sp at *
              go_wp2_with fail
              refine (match_any bC _ AC s w7 HNC7.out (HT.out.on HB7.out) HSZ.out).mono ?_
              rintro e w8 ⟨rfl, hbx⟩
              rw [HFC.out]
              have HNx8 := Lib.hid (HNx7.out.on hbx); have HNy8 := Lib.hid (HNy7.out.on hbx); have HNL8 := Lib.hid (HNL7.out.on hbx); have HNO8 := Lib.hid (HNO7.out.on hbx); have HB8 := Lib.hid (below_then HB7.out hbx (Nat.le_refl _))
              clear hbx
              go_wp2_with fail
              refine (match_any bL _ AL s w8 HNL8.out (HT.out.on HB8.out) HSZ.out).mono ?_
              rintro e w9 ⟨rfl, hbx⟩
              rw [HFL.out]
              have HNx9 := Lib.hid (HNx8.out.on hbx); have HNy9 := Lib.hid (HNy8.out.on hbx); have HNO9 := Lib.hid (HNO8.out.on hbx); have HB9 := Lib.hid (below_then HB8.out hbx (Nat.le_refl _))
              clear hbx
              go_wp2_with fail
              cases hfx : fitsB tx s.data.toList with
              | true =>
                have HFX := Lib.hid hfx
                rw [hfx] at HFO
                clear hfx
                refine (match_any bx _ Ax s w9 HNx9.out (HT.out.on HB9.out) HSZ.out).mono ?_
                rintro e w10 ⟨rfl, hbx⟩
                rw [HFX.out]
                have HNx10 := Lib.hid (HNx9.out.on hbx); have HNO10 := Lib.hid (HNO9.out.on hbx); have HB10 := Lib.hid (below_then HB9.out hbx (Nat.le_refl _))
                clear hbx
                go_wp2_with fail
                rcases Nat.eq_zero_or_pos s.size with hz | hz
                · have hem := empty_no (Nat.le_of_eq hz)
                  obtain ⟨m1, m2, m3⟩ := hem
                  have hie : s.data.toList.isEmpty = true := by rw [← ByteArray.toList_eq]; exact m1
                  rw [hie] at HFO
                  clear hz hie
                  refine (match_any bO _ AO s w10 HNO10.out (HT.out.on HB10.out) HSZ.out).mono ?_
                  rintro e w11 ⟨rfl, hbx⟩
                  rw [HFO.out]
                  have HNx11 := Lib.hid (HNx10.out.on hbx); have HB11 := Lib.hid (below_then HB10.out hbx (Nat.le_refl _))
                  clear hbx
                  go_wp2_with fail
                  go_ret
                  exact ⟨rfl, HB11.out⟩
                · have hem := empty_yes hz
                  obtain ⟨m1, m2, m3⟩ := hem
                  have hie : s.data.toList.isEmpty = false := by rw [← ByteArray.toList_eq]; exact m1
                  rw [hie] at HFO
                  clear hz hie
                  refine (match_any bO _ AO s w10 HNO10.out (HT.out.on HB10.out) HSZ.out).mono ?_
                  rintro e w11 ⟨rfl, hbx⟩
                  rw [HFO.out]
                  have HNx11 := Lib.hid (HNx10.out.on hbx); have HB11 := Lib.hid (below_then HB10.out hbx (Nat.le_refl _))
                  clear hbx
                  go_wp2_with fail
                  refine (match_any bx _ Ax s w11 HNx11.out (HT.out.on HB11.out) HSZ.out).mono ?_
                  rintro e w12 ⟨rfl, hbx⟩
                  rw [HFX.out]
                  have HB12 := Lib.hid (below_then HB11.out hbx (Nat.le_refl _))
                  clear hbx
                  go_wp2_with fail
                  go_ret
                  exact ⟨rfl, HB12.out⟩
              | false =>
                have HFX := Lib.hid hfx
                rw [hfx] at HFO
                clear hfx
                have hself3 : (fitsB ty s.data.toList == fitsB ty s.data.toList) = true := by simp
                refine (match_any bx _ Ax s w9 HNx9.out (HT.out.on HB9.out) HSZ.out).mono ?_
                rintro e w10 ⟨rfl, hbx⟩
                rw [HFX.out]
                have HNx10 := Lib.hid (HNx9.out.on hbx); have HNy10 := Lib.hid (HNy9.out.on hbx); have HNO10 := Lib.hid (HNO9.out.on hbx); have HB10 := Lib.hid (below_then HB9.out hbx (Nat.le_refl _))
                clear hbx
                go_wp2_with fail
                refine (match_any by_ _ Ay s w10 HNy10.out (HT.out.on HB10.out) HSZ.out).mono ?_
                rintro e w11 ⟨rfl, hbx⟩
                generalize fitsB ty s.data.toList = FY at *
                have HNx11 := Lib.hid (HNx10.out.on hbx); have HNO11 := Lib.hid (HNO10.out.on hbx); have HB11 := Lib.hid (below_then HB10.out hbx (Nat.le_refl _))
                clear hbx
                go_wp2_with fail
                rcases Nat.eq_zero_or_pos s.size with hz | hz
                · have hem := empty_no (Nat.le_of_eq hz)
                  obtain ⟨m1, m2, m3⟩ := hem
                  have hie : s.data.toList.isEmpty = true := by rw [← ByteArray.toList_eq]; exact m1
                  rw [hie] at HFO
                  clear hz hie
                  refine (match_any bO _ AO s w11 HNO11.out (HT.out.on HB11.out) HSZ.out).mono ?_
                  rintro e w12 ⟨rfl, hbx⟩
                  rw [HFO.out]
                  have HNx12 := Lib.hid (HNx11.out.on hbx); have HB12 := Lib.hid (below_then HB11.out hbx (Nat.le_refl _))
                  clear hbx
                  go_wp2_with fail
                  go_ret
                  exact ⟨rfl, HB12.out⟩
                · have hem := empty_yes hz
                  obtain ⟨m1, m2, m3⟩ := hem
                  have hie : s.data.toList.isEmpty = false := by rw [← ByteArray.toList_eq]; exact m1
                  rw [hie] at HFO
                  clear hz hie
                  refine (match_any bO _ AO s w11 HNO11.out (HT.out.on HB11.out) HSZ.out).mono ?_
                  rintro e w12 ⟨rfl, hbx⟩
                  rw [HFO.out]
                  have HNx12 := Lib.hid (HNx11.out.on hbx); have HB12 := Lib.hid (below_then HB11.out hbx (Nat.le_refl _))
                  clear hbx
                  go_wp2_with fail
                  refine (match_any bx _ Ax s w12 HNx12.out (HT.out.on HB12.out) HSZ.out).mono ?_
                  rintro e w13 ⟨rfl, hbx⟩
                  rw [HFX.out]
                  have HB13 := Lib.hid (below_then HB12.out hbx (Nat.le_refl _))
                  clear hbx
                  go_wp2_with fail
                  go_ret
                  exact ⟨rfl, HB13.out⟩
    · have HB3 := Lib.hid (below_then HB2.out hbx (Nat.le_refl _))
      clear hbx
      go_wp2_with fail
      go_ret
      exact ⟨rfl, HB3.out⟩
  · have HB2 := Lib.hid (below_then HB1.out hbx (Nat.le_refl _)); have HT2 := Lib.hid (HT.out.on HB2.out)
    clear hbx
    go_wp2_with fail
    refine (re_any c w2 (by omega) HT2.out).mono ?_
    rintro e w3 (⟨ty, by_, Ay, hy, rfl, hny, _, hbx⟩ | ⟨_, rfl, hbx⟩)
    · have HB3 := Lib.hid (below_then HB2.out hbx (Nat.le_refl _))
      clear hbx hy hny
      go_wp2_with fail
      go_ret
      exact ⟨rfl, HB3.out⟩
    · have HB3 := Lib.hid (below_then HB2.out hbx (Nat.le_refl _))
      clear hbx
      go_wp2_with fail
      go_ret
      exact ⟨rfl, HB3.out⟩
end Go.Proofs.YtpiflikblpfgoaaDoor
